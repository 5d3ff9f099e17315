/- The chapter's functions, walked by the abstract machine: plain lemmas, no condition. Printed by a program from longer texts: names made short. -/
import Derived.Test.YtahfljfikfkpnaaGreatDoorM9
import Derived.Test.YtahfljfikfkpnaaGreatDoorM7
set_option linter.unusedSectionVars false
set_option linter.unusedSimpArgs false
set_option linter.unusedVariables false
set_option maxHeartbeats 64000000
noncomputable section
namespace Go.Proofs.YtahfljfikfkpnaaGreatDoor
section
open Go bg
theorem pB {B:Nat} {h:ah} {v:V} {n:Nat} {us:List V} {b:aO} (dR:dK B h 4 v n us) (fe:dP b<B) (k:c'):dK B (h.set b k) 4 v n us:=
 dR.mod ((Mod.refl (fun q=>q=b) h).self _) (fun q aI e=>by have:=dR.base aI;rw [show q=b from e] at this;omega)
def yg (r:List UInt8):qp:=if o9 r then (jx 5 r).map fun q=>(q.1,q.2.1,q.2.2.1,q.2.2.2+1) else .error 251
def Ho:cc:=match wG with
 | .seq _ (.seq _ (.seq _ t))=>t
 | c=>c
theorem SQ (s:List UInt8) (p:Nat) (ws:List aq) (v:V) (b:aO) (B:Nat) (aL h:ah) (hm:Mod (lZ b B) aL h) (ai:h.get b=e4 s (ir d' s (p+1):Nat) p 0 v) (aG:p<s.length) (al:s.length<=100000) (dR:dK B h 4 v ws.length (gZ ws)) (dB:Old h b) (fe:dP b<B) (cj:B<=h.next) (hw:ws.length<=90000)
 (r:a6) (aW:r 0=.ptr b 0) (bf:r 2=.int .i64 ((p+1:Nat):Int)) (Q:eb->a6->ah->Prop) (b':∀e bq af,(e=.normal\/e=.ret)->pJ s p b B ws aL (yg (s.drop (p+1))) af->Q e bq af):
 bK Tryz.prog [.c Ho] .normal r h Q:=by
 unfold Ho wG;unfold e4 at ai;have f0:(0<=((p+1:Nat):Int))=True:=apk (by omega);have vt:=KU d' s (p+1) (by omega);have adL:p+1<=ir d' s (p+1):=by unfold ir;omega
 have f1:(((p+1:Nat):Int)<=(ir d' s (p+1):Int))=True:=apk (by omega);have f2:((ir d' s (p+1):Int)<=(s.length:Int))=True:=apk (by omega);simp +contextual only [aW,bf,ai,f0,f1,f2,ao8,FQ,↓aa,ad,simprocAttr];have hlen:ir d' s (p+1)=p+1 + ((s.drop (p+1)).takeWhile d').length:=rfl;have rM:jx 5 (s.drop (p+1))=if 64 < ((s.drop (p+1)).takeWhile d').length then .error 255 else .ok (5,0,(s.drop (p+1)).takeWhile d',((s.drop (p+1)).takeWhile d').length):=by unfold jx;simp only;rw [ao_ (by simp),ao_ (by simp)]
 have ac0:o9 (s.drop (p+1))=o9 ((s.drop (p+1)).takeWhile d'):=by
  cases c1:s.drop (p+1) with
  | nil=>rfl
  | cons c R=>
    simp only [aqd];cases ax:d' c with
    | true=>rfl
    | false=>
      simp only [ao2,apa,o9];cases aI:lq c.toNat with
      | false=>rfl
      | true=>rw [K4 aI] at ax;cases ax
 have b0:yg (s.drop (p+1))=if o9 ((s.drop (p+1)).takeWhile d') then ((if 64 < ((s.drop (p+1)).takeWhile d').length then .error 255 else .ok (5,0,(s.drop (p+1)).takeWhile d',((s.drop (p+1)).takeWhile d').length):qp).map fun q=>(q.1,q.2.1,q.2.2.1,q.2.2.2+1)) else .error 251:=by unfold yg;rw [ac0,rM]
 rw [b0] at b';rw [hlen] at ai vt;rw [hlen];generalize (s.drop (p+1)).takeWhile d'=t at *;have bad:pJ s p b B ws aL (.error 251) (h.set b (.bc [.str s,.int .i64 ((p+1+t.length:Nat):Int),.int .i64 p,.int .i64 251,v] 0 false)):=
  ⟨hm.set (fun _=>.inl rfl) _,v,by decide,((p+1+t.length:Nat):Int),by rw [eC,ape rfl];rfl⟩
 match t,b',bad,ai,vt with
 | [],b',bad,ai,vt=>
   rw [show o9 []=false from rfl,ao_ apu] at b';simp +contextual only [aW,ai,↓aa,ad,simprocAttr];exact b' _ _ _ (.inr rfl) bad
 | c::j1,b',bad,ai,vt=>
   have Eu:(c::j1=[])=False:=apl (by simp);simp only [ao9] at ai vt bad;have g0:((0:Int) < ((j1.length+1:Nat):Int))=True:=apk (by omega);have z0:((0:Int)<=0)=True:=apk (by omega);simp +contextual only [aW,ai,Eu,g0,z0,Int.reduceToNat,↓aa,ad,simprocAttr];refine bQ (oE _ _ _ _) ?_;rw [show gT (c.toNat:Int) 97 122=o9 (c::j1) from rfl];cases tW:o9 (c::j1) with
   | false=>
     rw [tW,ao_ apu] at b';simp +contextual only [aW,ai,Eu,g0,z0,Int.reduceToNat,↓aa,ad,simprocAttr];exact b' _ _ _ (.inr rfl) bad
   | true=>
     rw [tW,ape rfl] at b';simp only [ao9] at b';by_cases aH:64<j1.length+1
     . have j7:((64:Int) < ((j1.length+1:Nat):Int))=True:=apk (by omega);rw [ape aH] at b';simp +contextual only [aW,ai,Eu,g0,z0,j7,Int.reduceToNat,↓aa,ad,simprocAttr];refine aX (oT s (p+1 + (j1.length+1)) p 255 5 0 (c::j1) ws v b B _ (by rw [eC,ape rfl];rfl) (pB dR fe _) dB fe (by rw [iT];omega) (by omega)) ?_;rintro x ag ⟨ff,v2,ao,av⟩;simp +contextual only [aW,↓aa,ad,simprocAttr];exact b' _ _ _ (.inl rfl) ⟨(hm.set (fun _=>.inl rfl) _).trans ff,v2,by decide,_,ao⟩
     . have j7:((64:Int) < ((j1.length+1:Nat):Int))=False:=apl (by omega);rw [ao_ aH] at b';simp +contextual only [aW,ai,Eu,g0,z0,j7,Int.reduceToNat,↓aa,ad,simprocAttr];refine aX (oT s (p+1 + (j1.length+1)) p 0 5 0 (c::j1) ws v b B _ ai dR dB fe (by omega) (by omega)) ?_;rintro x ag ⟨ff,v2,ao,av⟩;simp +contextual only [aW,↓aa,ad,simprocAttr];refine b' _ _ _ (.inl rfl) ⟨hm.trans ff,v2,?_,?_,av⟩
       . rw [ao];show e4 s ((p+1 + (j1.length+1):Nat):Int) p 0 v2=e4 s ((p + (j1.length+1+1):Nat):Int) p 0 v2;rw [show p+1 + (j1.length+1)=p + (j1.length+1+1) from by omega]
       . show p + (j1.length+1+1)<=s.length;omega
theorem akL (s:List UInt8) (p:Nat) (ws:List aq) (v:V) (b:aO) (B:Nat) (h:ah) (ai:h.get b=e4 s p p 0 v) (aG:p<s.length) (al:s.length<=100000) (dR:dK B h 4 v ws.length (gZ ws)) (dB:Old h b) (fe:dP b<B) (cj:B<=h.next) (hw:ws.length<=90000):
 dW Tryz.prog 63 [.ptr b 0] h fun x af=>pJ s p b B ws h (yg (s.drop (p+1))) af:=by
 refine Yy.z rfl (cl ?_);have B_:wG=.seq (match wG with | .seq x _=>x | c=>c) (.seq (match wG with | .seq _ (.seq y _)=>y | c=>c) (.seq (.block 0 (.loop Hn)) Ho)):=rfl;rw [B_];unfold wG;unfold e4 at ai;have b9:IntKind.i64.wrap ((p:Int)+1)=((p+1:Nat):Int):=by rw [wrap_i64 (by omega) (by omega)];rfl
 simp +contextual only [ai,b9,↓aa,ad,simprocAttr];refine gf (fun r af=>r 0=.ptr b 0/\r 2=.int .i64 ((p+1:Nat):Int)/\Mod (lZ b B) h af/\dK B af 4 v ws.length (gZ ws)/\∃(a:Nat),af.get b=.bc [.str s,.int .i64 a,.int .i64 p,.int .i64 0,v] 0 false/\p+1<=a/\a<=s.length/\ir d' s (p+1)=ir d' s a) (fun r af=>s.length - ((hc (af.get b) 1).getD .bad).toN) ?_ ?_
 . exact ⟨by simp only [↓aa,ad,simprocAttr],by simp only [↓aa,ad,simprocAttr],(Mod.refl _ _).set (fun _=>.inl rfl) _,pB dR fe _,p+1,by rw [eC,ape rfl],ao1 _,by omega,rfl⟩
 . rintro r af ⟨aW,bf,hm,pO,a,ay,gv,dr,br⟩;unfold Hn;have EK:=hm.next
   by_cases a1:a<s.length
   . have g0:((a:Int) < (s.length:Int))=True:=apk (by omega);have g1:(0<=(a:Int))=True:=apk (by omega);simp +contextual (maxSteps:=1000000) only [aW,ay,g0,g1,ao3 a1,ao8,↓aa,ad,simprocAttr];refine bQ (L0 _ _) ?_;rw [show (gT (s[a].toNat:Int) 97 122||gT (s[a].toNat:Int) 65 90||gT (s[a].toNat:Int) 48 57||decide ((s[a].toNat:Int)=95)||decide ((s[a].toNat:Int)=39))=d' s[a] from Ro _];cases ax:d' s[a] with
     | true=>
       rw [KV a1 ax] at br;have aQ:IntKind.i64.wrap ((a:Int)+1)=((a+1:Nat):Int):=by rw [wrap_i64 (by omega) (by omega)];rfl
       simp +contextual (maxSteps:=1000000) only [aW,bf,ay,g0,g1,aQ,ao3 a1,ao8,↓aa,ad,simprocAttr];exact ⟨⟨hm.set (fun _=>.inl rfl) _,pB pO fe _,a+1,rfl,by omega,by omega,br⟩,by omega⟩
     | false=>
       rw [KW a1 ax] at br;simp +contextual (maxSteps:=1000000) only [aW,ay,g0,g1,ao3 a1,ao8,↓aa,ad,simprocAttr];refine SQ s p ws v b B h af hm (by rw [br];exact ay) aG al pO (hm.cr dB) fe (by omega) hw _ (by simp only [aW,↓aa,ad,simprocAttr]) (by simp only [bf,↓aa,ad,simprocAttr]) _ (fun e _ _ he U=>?_);rcases he with rfl | rfl<;>exact ⟨trivial,U⟩
   . have g0:((a:Int) < (s.length:Int))=False:=apl (by omega);rw [KT (a:=a) (by omega)] at br;simp +contextual (maxSteps:=1000000) only [aW,ay,g0,↓aa,ad,simprocAttr];refine SQ s p ws v b B h af hm (by rw [br];exact ay) aG al pO (hm.cr dB) fe (by omega) hw _ (by simp only [aW,↓aa,ad,simprocAttr]) (by simp only [bf,↓aa,ad,simprocAttr]) _ (fun e _ _ he U=>?_);rcases he with rfl | rfl<;>exact ⟨trivial,U⟩
theorem akI (s:List UInt8) (p:Nat) (ws:List aq) (v:V) (b:aO) (B:Nat) (h:ah) (ai:h.get b=e4 s p p 0 v) (aG:p<s.length) (al:s.length<=100000) (dR:dK B h 4 v ws.length (gZ ws)) (dB:Old h b) (fe:dP b<B) (cj:B<=h.next) (hw:ws.length<=90000):
 dW Tryz.prog 65 [.ptr b 0] h fun x af=>pJ s p b B ws h (pA (s.drop p)) af:=by
 refine YA.z rfl (cl ?_);unfold Oa;unfold e4 at ai;simp +contextual only [↓aa,ad,simprocAttr];refine aX (akJ _) ?_;rintro x j' ⟨rfl,rfl⟩;simp +contextual only [↓aa,ad,simprocAttr];have sg:((17:Nat):Int)=17:=rfl;have two:∀t ∈ gG,t.length<=2:=by decide
 have au:Ext h (h.new (.bc (oB gG) 0 false)):=(Ext.refl h).new _;have mA:(h.new (.bc (oB gG) 0 false)).get b=.bc [.str s,.int .i64 p,.int .i64 p,.int .i64 0,v] 0 false:=by rw [au.get _ dB,ai]
 have sT:(b=an h.next)=False:=xN dB (by omega);have u4:(an h.next=b)=False:=by rw [<-sT];exact propext aqP
 refine gf (fun r af=>r 0=.ptr b 0/\r 2=.slice (an h.next) 0 17 17/\∃i:Nat,i<=17/\r 3=.int .i64 i/\af=h.new (.bc (oB gG) 0 false)/\
  gG.find? (·.isPrefixOf (s.drop p))=(gG.drop i).find? (·.isPrefixOf (s.drop p))) (fun r af=>17 - (r 3).toN) ?_ ?_
 . exact ⟨by simp only [↓aa,ad,simprocAttr],by simp only [↓aa,ad,simprocAttr],0,by omega,by simp only [↓aa,ad,simprocAttr]<;>rfl,rfl,rfl⟩
 . rintro r af ⟨aW,bf,i,aM,bU,rfl,oc⟩;by_cases kN:i<17
   . have g0:((i:Int)<17)=True:=apk (by omega);have g1:(0<=(i:Int))=True:=apk (by omega);rw [PF _ kN] at oc;have zh:i<gG.length:=kN;have QH:(oB gG)[i]? =some (.str (gG[i]'kN)):=K' zh;have hlen:=two _ (ap8 (h:=zh));simp +contextual only [sg,aW,bf,bU,g0,g1,sT,u4,ao8,aqO,QH,↓aa,ad,simprocAttr];refine bQ (K9 s _ (p:Int) [.int .i64 p,.int .i64 0,v] b 0 false _ mA (by omega) (by omega) al (by omega)) ?_;rw [ao8];cases lC:(gG[i]'kN).isPrefixOf (s.drop p) with
     | true=>
       rw [lC,ape rfl] at oc;have nI:(gG[i]'kN).length<=s.length-p:=by rw [apN] at lC;have:=lC.length_le;rwa [apr] at this
       have eI:IntKind.i64.wrap ((p:Int) + ((gG[i]'kN).length:Int))=((p + (gG[i]'kN).length:Nat):Int):=by rw [wrap_i64 (by omega) (by omega)];rfl
       simp +contextual (maxSteps:=1000000) only [sg,aW,bf,bU,g0,g1,eI,mA,sT,u4,ai,ao8,aqO,QH,↓aa,ad,simprocAttr];refine aX (oT s (p + (gG[i]'kN).length) p 0 7 0 (gG[i]'kN) ws v b B _ (by rw [eC,ape rfl];rfl) (pB (dR.ext au) fe _) (au.cr dB) fe (by rw [iT,hV];omega) (by omega)) ?_;rintro x ag ⟨ff,v2,ao,av⟩;simp +contextual only [aW,↓aa,ad,simprocAttr];unfold pA;rw [oc];exact ⟨((au.mod (lZ b B)).set (fun _=>.inl rfl) _).trans ff,v2,ao,by show p + (gG[i]'kN).length<=s.length;omega,av⟩
     | false=>
       rw [lC,ao_ apu] at oc;have eI:IntKind.i64.wrap ((i:Int)+1)=((i+1:Nat):Int):=by rw [wrap_i64 (by omega) (by omega)];rfl
       simp +contextual only [sg,aW,bf,bU,g0,g1,eI,ai,↓aa,ad,simprocAttr];exact ⟨⟨i+1,by omega,rfl,oc⟩,by omega⟩
   . obtain rfl:i=17:=by omega
     have fb:gG.find? (·.isPrefixOf (s.drop p))=none:=by rw [oc];rfl
     have g0:((17:Int)<17)=False:=apl (by omega);simp +contextual only [sg,aW,bf,bU,g0,mA,sT,u4,ai,↓aa,ad,simprocAttr];unfold pA;rw [fb];exact ⟨(au.mod (lZ b B)).set (fun _=>.inl rfl) _,v,by decide,(p:Int),by rw [eC,ape rfl];rfl⟩
theorem wrap_u8 {n:Int} (aL:0<=n) (ae:n<256):IntKind.u8.wrap n=n:=by simp [IntKind.wrap,IntKind.bits,IntKind.signed];omega
theorem TU (l:List UInt8) (c:UInt8):fR (l++[c])=10 * fR l + (c.toNat-48):=by unfold fR;rw [List.foldl_append];rfl
theorem Ld {s:List UInt8} {p a:Nat} (xj:p<=a) (a1:a<s.length):(s.drop p).take (a+1-p)=(s.drop p).take (a-p)++[s[a]]:=by
 have ag:a-p < (s.drop p).length:=by rw [apr];omega
 rw [show a+1-p=a-p+1 from by omega,<-List.take_append_getElem ag];congr 1;rw [List.getElem_drop];simp only [show p + (a-p)=a from by omega]
def Hm:cc:=match yO with
 | .seq _ (.seq _ t)=>t
 | c=>c
theorem SO (s:List UInt8) (p:Nat) (n e:Int) (ws:List aq) (v:V) (b:aO) (B:Nat) (aL h:ah) (hm:Mod (lZ b B) aL h) (ai:h.get b=.bc [.str s,.int .i64 (ir dU s p:Nat),.int .i64 p,.int .i64 e,v] 0 false) (aG:p<=s.length) (al:s.length<=100000) (dR:dK B h 4 v ws.length (gZ ws)) (dB:Old h b) (fe:dP b<B) (cj:B<=h.next) (hw:ws.length<=90000)
 (aF:(e=0/\n=fR ((s.drop p).takeWhile dU)/\fR ((s.drop p).takeWhile dU)<2147483648)\/(e=254/\2147483648<=fR ((s.drop p).takeWhile dU)/\0<=n/\n<2147483648))
 (r:a6) (aW:r 0=.ptr b 0) (bf:r 2=.int .i64 n) (Q:eb->a6->ah->Prop) (b':∀bq af,pJ s p b B ws aL (qW (s.drop p)) af->Q .normal bq af):
 bK Tryz.prog [.c Hm] .normal r h Q:=by
 unfold Hm yO;have ads:qW (s.drop p)=if 2147483647<fR ((s.drop p).takeWhile dU) then .error 254 else .ok (1,(if 1073741823 < (fR ((s.drop p).takeWhile dU):Int) then (fR ((s.drop p).takeWhile dU):Int)-2147483648 else fR ((s.drop p).takeWhile dU)),[],((s.drop p).takeWhile dU).length):=rfl;rw [ads] at b';have hle:=KU dU s p aG;have hlen:ir dU s p=p + ((s.drop p).takeWhile dU).length:=rfl;rw [hlen] at ai hle;generalize (s.drop p).takeWhile dU=t at *;simp +contextual only [aW,bf,ai,↓aa,ad,simprocAttr];have sF:0<=n/\n<=2147483648:=by omega
 refine bQ (ahV n _ sF.1 sF.2) ?_;simp +contextual only [aW,bf,ai,↓aa,ad,simprocAttr];refine aX (oT s (p+t.length) p e 1 _ [] ws v b B _ ai dR dB fe cj (by omega)) ?_;rintro x ag ⟨ff,v2,ao,av⟩;simp +contextual only [aW,↓aa,ad,simprocAttr];refine b' _ _ ?_;rcases aF with ⟨rfl,rfl,b0⟩ | ⟨rfl,b0,_⟩
 . rw [ao_ (by omega)];exact ⟨hm.trans ff,v2,ao,hle,av⟩
 . rw [ape (by omega)];exact ⟨hm.trans ff,v2,by decide,_,ao⟩
theorem akH (s:List UInt8) (p:Nat) (ws:List aq) (v:V) (b:aO) (B:Nat) (h:ah) (ai:h.get b=e4 s p p 0 v) (aG:p<s.length) (al:s.length<=100000) (dR:dK B h 4 v ws.length (gZ ws)) (dB:Old h b) (fe:dP b<B) (cj:B<=h.next) (hw:ws.length<=90000):
 dW Tryz.prog 62 [.ptr b 0] h fun x af=>pJ s p b B ws h (qW (s.drop p)) af:=by
 refine Yx.z rfl (cl ?_);have B_:yO=.seq (match yO with | .seq x _=>x | c=>c) (.seq (.block 0 (.loop Hl)) Hm):=rfl;rw [B_];unfold yO;unfold e4 at ai;simp +contextual only [ai,↓aa,ad,simprocAttr]
 refine gf (fun r af=>r 0=.ptr b 0/\Mod (lZ b B) h af/\dK B af 4 v ws.length (gZ ws)/\∃(a:Nat) (n e:Int),r 2=.int .i64 n/\af.get b=.bc [.str s,.int .i64 a,.int .i64 p,.int .i64 e,v] 0 false/\p<=a/\a<=s.length/\ir dU s p=ir dU s a/\
  ((e=0/\n=fR ((s.drop p).take (a-p))/\fR ((s.drop p).take (a-p))<2147483648)\/(e=254/\2147483648<=fR ((s.drop p).take (a-p))/\0<=n/\n<2147483648))) (fun r af=>s.length - ((hc (af.get b) 1).getD .bad).toN) ?_ ?_
 . exact ⟨by simp only [↓aa,ad,simprocAttr],Mod.refl _ _,dR,p,0,0,by simp only [↓aa,ad,simprocAttr],ai,ao1 _,by omega,rfl,.inl ⟨rfl,by rw [aqs];rfl,by rw [aqs];simp [fR]⟩⟩
 . rintro r af ⟨aW,hm,pO,a,n,e,bf,ay,gv,dr,br,b0⟩;unfold Hl;have EK:=hm.next
   by_cases a1:a<s.length
   . have g0:((a:Int) < (s.length:Int))=True:=apk (by omega);have g1:(0<=(a:Int))=True:=apk (by omega);simp +contextual (maxSteps:=1000000) only [aW,ay,g0,g1,ao3 a1,ao8,↓aa,ad,simprocAttr];refine bQ (oE _ _ _ _) ?_;rw [show gT (s[a].toNat:Int) 48 57=dU s[a] from rfl];cases ax:dU s[a] with
     | true=>
       rw [KV a1 ax] at br;have a_:=ax;simp only [dU,n9,ao7,apf] at a_;have zp:=Ld gv a1;have nh:fR ((s.drop p).take (a+1-p))=10 * fR ((s.drop p).take (a-p)) + (s[a].toNat-48):=by rw [zp,TU]
       have sF:0<=n/\n<2147483648:=by omega
       have b9:IntKind.i64.wrap ((a:Int)+1)=((a+1:Nat):Int):=by rw [wrap_i64 (by omega) (by omega)];rfl
       have aQ:IntKind.u8.wrap ((s[a].toNat:Int)-48)=(s[a].toNat:Int)-48:=wrap_u8 (by omega) (by omega);have eI:IntKind.i64.wrap ((s[a].toNat:Int)-48)=(s[a].toNat:Int)-48:=wrap_i64 (by omega) (by omega);have gp:IntKind.i64.wrap (10 * n)=10 * n:=wrap_i64 (by omega) (by omega);have r9:IntKind.i64.wrap (10 * n + ((s[a].toNat:Int)-48))=10 * n + ((s[a].toNat:Int)-48):=wrap_i64 (by omega) (by omega);by_cases o5:(2147483648:Int)<=10 * n + ((s[a].toNat:Int)-48)
       . simp +contextual (maxSteps:=1000000) only [aW,bf,ay,g0,g1,b9,aQ,eI,gp,r9,o5,ao3 a1,ao8,↓aa,ad,simprocAttr];refine ⟨⟨(hm.set (fun _=>.inl rfl) _).set (fun _=>.inl rfl) _,pB (pB pO fe _) fe _,a+1,0,254,rfl,rfl,by omega,by omega,br,.inr ⟨rfl,?_,by omega,by omega⟩⟩,by omega⟩;rw [nh];rcases b0 with ⟨_,q,_⟩ | ⟨_,q,_⟩<;>omega
       . simp +contextual (maxSteps:=1000000) only [aW,bf,ay,g0,g1,b9,aQ,eI,gp,r9,o5,ao3 a1,ao8,↓aa,ad,simprocAttr];refine ⟨⟨hm.set (fun _=>.inl rfl) _,pB pO fe _,a+1,_,e,rfl,rfl,by omega,by omega,br,?_⟩,by omega⟩;rw [nh];rcases b0 with ⟨mM,q,_⟩ | ⟨mM,q,_⟩
         . exact .inl ⟨mM,by omega,by omega⟩
         . exact .inr ⟨mM,by omega,by omega,by omega⟩
     | false=>
       rw [KW a1 ax] at br;simp +contextual (maxSteps:=1000000) only [aW,ay,g0,g1,ao3 a1,ao8,↓aa,ad,simprocAttr];refine SO s p n e ws v b B h af hm (by rw [br];exact ay) (by omega) al pO (hm.cr dB) fe (by omega) hw ?_ _ (by simp only [aW,↓aa,ad,simprocAttr]) (by simp only [bf,↓aa,ad,simprocAttr]) _ (fun _ _ U=>⟨trivial,U⟩);rw [<-FQ dU s p,br];exact b0
   . have g0:((a:Int) < (s.length:Int))=False:=apl (by omega);rw [KT (a:=a) (by omega)] at br;simp +contextual (maxSteps:=1000000) only [aW,ay,g0,↓aa,ad,simprocAttr];refine SO s p n e ws v b B h af hm (by rw [br];exact ay) (by omega) al pO (hm.cr dB) fe (by omega) hw ?_ _ (by simp only [aW,↓aa,ad,simprocAttr]) (by simp only [bf,↓aa,ad,simprocAttr]) _ (fun _ _ U=>⟨trivial,U⟩);rw [<-FQ dU s p,br];exact b0
theorem Bx (c:UInt8) (r:List UInt8):kL (c::r)=if c=110 then some (10,1) else if c=116 then some (9,1) else if c=34 then some (34,1) else if c=92 then some (92,1) else
 if 2<=r.length/\dU c/\dU (r[0]?.getD 0)/\dU (r[1]?.getD 0)/\fR (c::r.take 2)<256 then some ((fR (c::r.take 2)).toUInt8,3) else none:=rfl
theorem aaZ (R:List UInt8) (c1:R≠[]) (ae:R[0]? ≠some 110) (ag:R[0]? ≠some 116) (ar:R[0]? ≠some 34) (aT:R[0]? ≠some 92):
 kL R=if 3<=R.length/\(R.take 3).all dU=true/\fR (R.take 3)<256 then some ((fR (R.take 3)).toUInt8,3) else none:=by
 match R,c1 with
 | c::r,_=>
   simp only [apj,ne_eq,ao4] at ae ag ar aT;rw [Bx,ao_ ae,ao_ ag,ao_ ar,ao_ aT]
   match r with
   | []=>simp
   | [_]=>simp
   | d1::d2::bq=>
     simp [and_assoc]
theorem VS {R:List UInt8} {i:Nat} (aM:i<=3) (h:(R.take 3).all dU=true):(R.take i).all dU=true:=by rw [apA] at h ⊢;intro x au;refine h x ?_;rw [show R.take i=(R.take 3).take i from by rw [List.take_take,Nat.min_eq_left aM]] at au;exact List.mem_of_mem_take au
theorem VR {s:List UInt8} {a i:Nat} (a1:a+i<s.length):((s.drop a).take (i+1)).all dU=(((s.drop a).take i).all dU&&dU s[a+i]):=by have h:=Ld (p:=a) (a:=a+i) (by omega) a1;rw [show a+i+1-a=i+1 from by omega,show a+i-a=i from by omega] at h;rw [h,List.all_append];simp
theorem amE {s:List UInt8} {a i:Nat} (a1:a+i<s.length):fR ((s.drop a).take (i+1))=10 * fR ((s.drop a).take i) + (s[a+i].toNat-48):=by have h:=Ld (p:=a) (a:=a+i) (by omega) a1;rw [show a+i+1-a=i+1 from by omega,show a+i-a=i from by omega] at h;rw [h,TU]
theorem akE (s:List UInt8) (a:Nat) (cO:Int) (v:V) (b:aO) (h:ah) (ai:h.get b=e4 s a cO 0 v) (aL:a<=s.length) (al:s.length<=100000) (dB:Old h b):
 dW Tryz.prog 116 [.ptr b 0] h fun x af=>Mod (fun q=>q=b) h af/\match kL (s.drop a) with
  | some (c,n)=>x=.int .u8 (c.toNat:Int)/\af.get b=e4 s ((a+n:Nat):Int) cO 0 v/\a+n<=s.length
  | none=>(∃c:UInt8,x=.int .u8 (c.toNat:Int))/\∃bF:Nat,af.get b=e4 s (bF:Int) cO 252 v/\a<=bF/\bF<=s.length:=by
 refine W9.z rfl (cl ?_);unfold MZ;unfold e4 at ai ⊢;have kQ:∀v,bg.Mod (fun q=>q=b) h ((h.set b v)):=fun v=>(Mod.refl (fun q=>q=b) h).self _;by_cases fF:(s.length:Int)<=(a:Int)
 . have c1:s.drop a=[]:=apI (by omega);rw [c1];simp +contextual only [ai,fF,↓aa,ad,simprocAttr];exact ⟨kQ _,⟨0,rfl⟩,a,rfl,ao1 _,aL⟩
 . have a1:a<s.length:=by omega
   have f0:(0<=(a:Int))=True:=apk (by omega);have f1:((a:Int) < (s.length:Int))=True:=apk (by omega);have b9:IntKind.i64.wrap ((a:Int)+1)=((a+1:Nat):Int):=by rw [wrap_i64 (by omega) (by omega)];rfl
   have Bp:((s[a].toNat:Int)=110)=(s[a]=110):=lS _ 110 (by omega);have Bq:((s[a].toNat:Int)=116)=(s[a]=116):=lS _ 116 (by omega);have ig:((s[a].toNat:Int)=34)=(s[a]=34):=lS _ 34 (by omega);have o0:((s[a].toNat:Int)=92)=(s[a]=92):=lS _ 92 (by omega);have a_:=drop_cons a1;by_cases ch:s[a]=110
   . have em:kL (s.drop a)=some (10,1):=by rw [a_,Bx,ape ch]
     rw [em];have ch:=apk ch;simp +contextual only [ai,fF,f0,f1,b9,Bp,Bq,ig,o0,ch,ao3 a1,ao8,↓aa,ad,simprocAttr];refine ⟨kQ _,?_⟩
     first | omega | (refine ⟨rfl,?_⟩;omega) | (simp [c3];omega) | (simp [g_];omega) | (simp;omega)
   by_cases c8:s[a]=116
   . have em:kL (s.drop a)=some (9,1):=by rw [a_,Bx,ao_ ch,ape c8]
     rw [em];have c8:=apk c8;simp +contextual only [ai,fF,f0,f1,b9,Bp,Bq,ig,o0,ch,c8,ao3 a1,ao8,↓aa,ad,simprocAttr];refine ⟨kQ _,?_⟩
     first | omega | (refine ⟨rfl,?_⟩;omega) | (simp [c3];omega) | (simp [g_];omega) | (simp;omega)
   by_cases c3:s[a]=34
   . have em:kL (s.drop a)=some (34,1):=by rw [a_,Bx,ao_ ch,ao_ c8,ape c3]
     rw [em];have tv:=apk c3;simp +contextual only [ai,fF,f0,f1,b9,Bp,Bq,ig,o0,ch,c8,tv,ao3 a1,ao8,↓aa,ad,simprocAttr];refine ⟨kQ _,?_⟩
     first | omega | (refine ⟨rfl,?_⟩;omega) | (simp [c3];omega) | (simp [g_];omega) | (simp;omega)
   by_cases g_:s[a]=92
   . have em:kL (s.drop a)=some (92,1):=by rw [a_,Bx,ao_ ch,ao_ c8,ao_ c3,ape g_]
     rw [em];have Yg:=apk g_;simp +contextual only [ai,fF,f0,f1,b9,Bp,Bq,ig,o0,ch,c8,c3,Yg,ao3 a1,ao8,↓aa,ad,simprocAttr];refine ⟨kQ _,?_⟩
     first | omega | (refine ⟨rfl,?_⟩;omega) | (simp [c3];omega) | (simp [g_];omega) | (simp;omega)
   have Eo:(s.drop a)[0]? =some s[a]:=by rw [a_];rfl
   have em:=aaZ (s.drop a) (by rw [a_];exact List.cons_ne_nil _ _) (by rw [Eo];simpa using ch) (by rw [Eo];simpa using c8) (by rw [Eo];simpa using c3) (by rw [Eo];simpa using g_);have ach:(s.drop a).length=s.length-a:=apr;rw [ach] at em;rw [em];simp +contextual only [ai,fF,f0,f1,b9,Bp,Bq,ig,o0,ch,c8,c3,g_,ao3 a1,ao8,↓aa,ad,simprocAttr]
   refine gf (fun r af=>r 0=.ptr b 0/\af=h.set b (.bc [.str s,.int .i64 ((a+1:Nat):Int),.int .i64 cO,.int .i64 0,v] 0 false)/\∃(i:Nat) (n:Int),r 5=.int .i64 i/\r 4=.int .i64 n/\i<=3/\a+i<=s.length/\((s.drop a).take i).all dU=true/\n=fR ((s.drop a).take i)/\
    ((i=0/\n<1)\/(i=1/\n<10)\/(i=2/\n<100)\/(i=3/\n<1000))) (fun r af=>3 - (r 5).toN) ?_ ?_
   . exact ⟨by simp only [↓aa,ad,simprocAttr],rfl,0,0,by simp only [↓aa,ad,simprocAttr]<;>rfl,by simp only [↓aa,ad,simprocAttr],by omega,by omega,rfl,rfl,.inl ⟨rfl,by omega⟩⟩
   . rintro r af ⟨aW,rfl,i,n,b4,cU,an4,BR,gq,aF,sF⟩;have mA:∀k:c',(h.set b k).get b=k:=fun k=>by rw [eC,ape rfl]
     by_cases aM:i<3
     . have g0:((i:Int)<3)=True:=apk (by omega);have v1:IntKind.i64.wrap (((a+1:Nat):Int)-1)=(a:Int):=by rw [wrap_i64 (by omega) (by omega)];omega
       have v2:IntKind.i64.wrap ((a:Int) + (i:Int))=((a+i:Nat):Int):=by rw [wrap_i64 (by omega) (by omega)];rfl
       by_cases hC:(s.length:Int)<=((a+i:Nat):Int)
       . simp +contextual (maxSteps:=1000000) only [aW,b4,cU,g0,v1,v2,mA,hC,↓aa,ad,simprocAttr];rw [ao_ (by omega)];exact ⟨(kQ _).self _,⟨0,rfl⟩,a+1,by first | rfl | rw [eC,ape rfl],by omega,by omega⟩
       . have B0:a+i<s.length:=by omega
         have g1:(0<=((a+i:Nat):Int))=True:=apk (by omega);have g2:(((a+i:Nat):Int) < (s.length:Int))=True:=apk (by omega);simp +contextual (maxSteps:=1000000) only [aW,b4,cU,g0,g1,g2,v1,v2,mA,hC,ao3 B0,ao8,↓aa,ad,simprocAttr];refine bQ (oE _ _ _ _) ?_;rw [show gT (s[a+i].toNat:Int) 48 57=dU s[a+i] from rfl];have has:=VR B0;rw [gq,aqk] at has;cases ax:dU s[a+i] with
         | true=>
           rw [ax] at has;have nh:=amE B0;have w8:=ax;simp only [dU,n9,ao7,apf] at w8;have vZ:IntKind.u8.wrap ((s[a+i].toNat:Int)-48)=(s[a+i].toNat:Int)-48:=wrap_u8 (by omega) (by omega);have Lm:IntKind.i64.wrap ((s[a+i].toNat:Int)-48)=(s[a+i].toNat:Int)-48:=wrap_i64 (by omega) (by omega);have TI:IntKind.i64.wrap (10 * n)=10 * n:=wrap_i64 (by omega) (by omega);have amq:IntKind.i64.wrap (10 * n + ((s[a+i].toNat:Int)-48))=10 * n + ((s[a+i].toNat:Int)-48):=wrap_i64 (by omega) (by omega);have amr:IntKind.i64.wrap ((i:Int)+1)=((i+1:Nat):Int):=by rw [wrap_i64 (by omega) (by omega)];rfl
           simp +contextual (maxSteps:=1000000) only [aW,b4,cU,g0,g1,g2,v1,v2,vZ,Lm,TI,amq,amr,mA,hC,ao3 B0,ao8,↓aa,ad,simprocAttr];exact ⟨⟨i+1,_,rfl,rfl,by omega,by omega,has,by rw [nh];omega,by omega⟩,by omega⟩
         | false=>
           rw [ax] at has;have adr:¬((s.drop a).take 3).all dU=true:=fun q=>by rw [VS (i:=i+1) (by omega) q] at has;cases has
           simp +contextual (maxSteps:=1000000) only [aW,b4,cU,g0,g1,g2,v1,v2,mA,hC,ao3 B0,ao8,↓aa,ad,simprocAttr];rw [ao_ (fun q=>adr q.2.1)];exact ⟨(kQ _).self _,⟨0,rfl⟩,a+1,by first | rfl | rw [eC,ape rfl],by omega,by omega⟩
     . obtain rfl:i=3:=by omega
       have g0:((3:Int)<3)=False:=apl (by omega);have NZ:((3:Nat):Int)=3:=rfl;have v1:IntKind.i64.wrap (((a+1:Nat):Int)+2)=((a+3:Nat):Int):=by rw [wrap_i64 (by omega) (by omega)];omega
       by_cases o5:(255:Int)<n
       . have hw:IntKind.u8.wrap n=((n.toNat.toUInt8).toNat:Int):=by
          simp [IntKind.wrap,IntKind.bits,IntKind.signed];omega
         simp +contextual (maxSteps:=1000000) only [aW,b4,cU,NZ,g0,v1,mA,o5,hw,↓aa,ad,simprocAttr];rw [ao_ (by omega)];exact ⟨((kQ _).self _).self _,⟨_,rfl⟩,a+3,by first | rfl | rw [eC,ape rfl],by omega,by omega⟩
       . have hw:IntKind.u8.wrap n=(((fR ((s.drop a).take 3)).toUInt8).toNat:Int):=by
          rw [aF];simp [IntKind.wrap,IntKind.bits,IntKind.signed]
         simp +contextual (maxSteps:=1000000) only [aW,b4,cU,NZ,g0,v1,mA,o5,hw,↓aa,ad,simprocAttr];rw [ape ⟨by omega,gq,by omega⟩];refine ⟨(kQ _).self _,?_⟩
         first | omega | exact ⟨rfl,by first | rfl | rw [eC,ape rfl],by omega⟩
def Hq:cc:=match wH with
 | .seq _ (.seq _ (.seq _ t))=>t
 | c=>c
theorem KI (s:List UInt8) (p a:Nat) (e:Int) (cb:List UInt8) (v2:V) (ws:List aq) (v:V) (b:aO) (B:Nat) (aL h:ah) (hm:Mod (lZ b B) aL h) (ai:h.get b=.bc [.str s,.int .i64 a,.int .i64 p,.int .i64 e,v] 0 false) (aG:p<s.length) (b1:a<=s.length) (xj:p+1<=a) (al:s.length<=100000) (dR:dK B h 4 v ws.length (gZ ws)) (dB:Old h b) (fe:dP b<B) (cj:B<=h.next) (hw:ws.length<=90000)
 (hA:dK B h 1 v2 cb.length (ho cb))
 (a8:(e=0/\a<s.length/\nu (s.drop (p+1))=some (cb,a-p))\/((e=252\/(e=0/\s.length<=a))/\nu (s.drop (p+1))=none))
 (r:a6) (aW:r 0=.ptr b 0) (bf:r 2=v2) (Q:eb->a6->ah->Prop) (b':∀bq af,pJ s p b B ws aL (mP (s.drop (p+1))) af->Q .normal bq af):
 bK Tryz.prog [.c Hq] .normal r h Q:=by
 unfold Hq wH;have b9:IntKind.i64.wrap ((a:Int)+1)=((a+1:Nat):Int):=by rw [wrap_i64 (by omega) (by omega)];rfl
 have rC:∀k,dK B (h.set b k) 1 v2 cb.length (ho cb):=fun k=>hA.mod ((Mod.refl (fun q=>q=b) h).self k) (fun q aI e=>by have:=hA.base aI;rw [show q=b from e] at this;omega);have P1:∀k dZ,dK B ((h.set b k).set b dZ) 1 v2 cb.length (ho cb):=fun k dZ=>(rC k).mod ((Mod.refl (fun q=>q=b) (h.set b k)).self dZ) (fun q aI e=>by have:=hA.base aI;rw [show q=b from e] at this;omega);have vm:∀(h:ah) (k:c'),(h.set b k).get b=k:=fun h k=>by rw [eC,ape rfl]
 rcases a8 with ⟨rfl,a1,Jd⟩ | ⟨he,Jd⟩
 . have tY:mP (s.drop (p+1))=if 4096<cb.length then .error 255 else .ok (2,0,cb,a-p+1):=by unfold mP;rw [Jd]
   rw [tY] at b';have g0:((s.length:Int)<=(a:Int))=False:=apl (by omega);by_cases o5:4096<cb.length
   . rw [ape o5] at b';have g1:((4096:Int) < (cb.length:Int))=True:=apk (by omega);simp +contextual (maxSteps:=1000000) only [aW,bf,ai,g0,g1,b9,vm,hA.v.len,sn (P1 _ _),sn (rC _),↓aa,ad,simprocAttr];refine aX (oT s (a+1) p 255 2 0 cb ws v b B _ (by rw [vm];rfl) (pB (pB dR fe _) fe _) dB fe (by rw [iT,iT];omega) (by omega)) ?_;rintro x ag ⟨ff,v3,ao,av⟩;simp +contextual only [aW,↓aa,ad,simprocAttr];exact b' _ _ ⟨((hm.set (fun _=>.inl rfl) _).set (fun _=>.inl rfl) _).trans ff,v3,by decide,_,ao⟩
   . rw [ao_ o5] at b';have g1:((4096:Int) < (cb.length:Int))=False:=apl (by omega);simp +contextual (maxSteps:=1000000) only [aW,bf,ai,g0,g1,b9,vm,hA.v.len,sn (rC _),↓aa,ad,simprocAttr];refine aX (oT s (a+1) p 0 2 0 cb ws v b B _ (by rw [vm];rfl) (pB dR fe _) dB fe (by rw [iT];omega) (by omega)) ?_;rintro x ag ⟨ff,v3,ao,av⟩;simp +contextual only [aW,↓aa,ad,simprocAttr];refine b' _ _ ⟨(hm.set (fun _=>.inl rfl) _).trans ff,v3,?_,?_,av⟩
     . rw [ao];show e4 s ((a+1:Nat):Int) p 0 v3=e4 s ((p + (a-p+1):Nat):Int) p 0 v3;rw [show p + (a-p+1)=a+1 from by omega]
     . show p + (a-p+1)<=s.length;omega
 . have tY:mP (s.drop (p+1))=.error 252:=by unfold mP;rw [Jd]
   rw [tY] at b';rcases he with rfl | ⟨rfl,o_⟩
   . simp +contextual (maxSteps:=1000000) only [aW,bf,ai,b9,vm,hA.v.len,sn (rC _),↓aa,ad,simprocAttr];refine aX (oT s (a+1) p 252 2 0 cb ws v b B _ (by rw [vm];rfl) (pB dR fe _) dB fe (by rw [iT];omega) (by omega)) ?_;rintro x ag ⟨ff,v3,ao,av⟩;simp +contextual only [aW,↓aa,ad,simprocAttr];exact b' _ _ ⟨(hm.set (fun _=>.inl rfl) _).trans ff,v3,by decide,_,ao⟩
   . have g0:((s.length:Int)<=(a:Int))=True:=apk (by omega);simp +contextual (maxSteps:=1000000) only [aW,bf,ai,g0,b9,vm,hA.v.len,sn (rC _),sn (P1 _ _),↓aa,ad,simprocAttr];refine aX (oT s (a+1) p 252 2 0 cb ws v b B _ (by rw [vm];rfl) (pB (pB dR fe _) fe _) dB fe (by rw [iT,iT];omega) (by omega)) ?_;rintro x ag ⟨ff,v3,ao,av⟩;simp +contextual only [aW,↓aa,ad,simprocAttr];exact b' _ _ ⟨((hm.set (fun _=>.inl rfl) _).set (fun _=>.inl rfl) _).trans ff,v3,by decide,_,ao⟩
theorem akK (s:List UInt8) (p:Nat) (ws:List aq) (v:V) (b:aO) (B:Nat) (h:ah) (ai:h.get b=e4 s p p 0 v) (aG:p<s.length) (al:s.length<=100000) (dR:dK B h 4 v ws.length (gZ ws)) (dB:Old h b) (fe:dP b<B) (cj:B<=h.next) (hw:ws.length<=90000):
 dW Tryz.prog 64 [.ptr b 0] h fun x af=>pJ s p b B ws h (mP (s.drop (p+1))) af:=by
 refine Yz.z rfl (cl ?_);have B_:wH=.seq (match wH with | .seq x _=>x | c=>c) (.seq (match wH with | .seq _ (.seq y _)=>y | c=>c) (.seq (.block 0 (.loop Hp)) Hq)):=rfl;rw [B_];unfold wH;unfold e4 at ai;have b9:IntKind.i64.wrap ((p:Int)+1)=((p+1:Nat):Int):=by rw [wrap_i64 (by omega) (by omega)];rfl
 simp +contextual only [ai,b9,↓aa,ad,simprocAttr];have acj:∀af,Mod (fun q=>q=b) h af->dK B af 4 v ws.length (gZ ws):=fun af hm=>dR.mod hm (fun q aI e=>by have:=dR.base aI;rw [show q=b from e] at this;omega)
 refine gf (fun r af=>r 0=.ptr b 0/\∃(a:Nat) (e:Int) (cb:List UInt8) (v2:V),r 2=v2/\af.get b=.bc [.str s,.int .i64 a,.int .i64 p,.int .i64 e,v] 0 false/\a<=s.length/\p+1<=a/\cb.length<=a/\Mod (fun q=>q=b) h af/\dK h.next af 1 v2 cb.length (ho cb)/\
  ((e=0/\nu (s.drop (p+1))=(nu (s.drop a)).map fun q=>(cb++q.1,q.2 + (a - (p+1))))\/(e=252/\nu (s.drop (p+1))=none)))
  (fun r af=>(s.length - ((hc (af.get b) 1).getD .bad).toN) + (252 - ((hc (af.get b) 3).getD .bad).toN)) ?_ ?_
 . refine ⟨by simp only [↓aa,ad,simprocAttr],p+1,0,[],.cS,by simp only [↓aa,ad,simprocAttr],by rw [eC,ape rfl],by omega,by omega,by simp,(Mod.refl _ _).self _,⟨rfl,rfl⟩,.inl ⟨rfl,?_⟩⟩;rw [aqs];cases nu (s.drop (p+1))<;>rfl
 . rintro r af ⟨aW,a,e,cb,v2,bf,ay,dr,gv,xA,hm,hA,br⟩;unfold Hp;have j9:=hm.next
   have Ii:=acj _ hm;have rW:∀{ag:ah},dK h.next ag 1 v2 cb.length (ho cb)->∀q,v2.bn q->¬(fun q=>q=b) q:=by
    intro ag dR q aI he;have ae:=dR.base aI;rw [show q=b from he] at ae;have ag:dP b<h.next:=dB
    omega
   have IW:Mod (lZ b B) h af:=hm.mono (fun q _ aI=>.inl aI);have Ih:dK B af 1 v2 cb.length (ho cb):=hA.mono cj;rcases br with ⟨rfl,br⟩ | ⟨rfl,br⟩
   . by_cases a1:a<s.length
     . have g0:((a:Int) < (s.length:Int))=True:=apk (by omega);have g1:(0<=(a:Int))=True:=apk (by omega);have aQ:IntKind.i64.wrap ((a:Int)+1)=((a+1:Nat):Int):=by rw [wrap_i64 (by omega) (by omega)];rfl
       have ig:(((s[a]).toNat:Int)=34)=(s[a]=34):=lS _ 34 (by omega);have o0:(((s[a]).toNat:Int)=92)=(s[a]=92):=lS _ 92 (by omega);have Br:(((s[a]).toNat:Int)=127)=(s[a]=127):=lS _ 127 (by omega);have Cq:(((s[a]).toNat:Int)<32)=(s[a]<32):=TK _ 32 (by omega);rw [drop_cons a1,Tx] at br;have step:∀(ag:ah),Mod (fun q=>q=b) h ag->af.next<=ag.next->dK h.next ag 1 v2 cb.length (ho cb)->∀(c:UInt8),∃v3 ar,l0 1 v2 (.slice (an ag.next) 0 1 1) (ag.new (.bc [.int .u8 (c.toNat:Int)] 0 false))=.val v3 ar/\dK h.next ar 1 v3 (cb++[c]).length (ho (cb++[c]))/\Mod (fun q=>q=b) h ar/\ar.get b=ag.get b:=by intro ag ff adt rC c;obtain ⟨v3,ar,ao,av,aC,bs,ca⟩:=A3 (cs:=[.int .u8 (c.toNat:Int)]) (by omega) rC (by omega) (by unfold top;omega) rfl rfl;refine ⟨v3,ar,ao,by rw [apb,DJ];exact av,ff.Tz aC (fun q aI=>rC.base aI),?_⟩;exact aC.get _ (ff.cr dB) (fun aI=>rW rC _ aI rfl)
       by_cases ch:s[a]=34
       . rw [ape ch] at br;simp only [apZ,apo] at br;have Bd:=apk ch;simp +contextual (maxSteps:=1000000) only [aW,bf,ay,g0,g1,ig,Bd,ao3 a1,ao8,↓aa,ad,simprocAttr];refine KI s p a 0 cb v2 ws v b B h af IW ay aG dr gv al Ii (hm.cr dB) fe (by omega) hw Ih (.inl ⟨rfl,a1,?_⟩) _ (by simp only [aW,↓aa,ad,simprocAttr]) (by simp only [bf,↓aa,ad,simprocAttr]) _ (fun _ _ U=>⟨trivial,U⟩);rw [br,show 1 + (a - (p+1))=a-p from by omega]
       rw [ao_ ch] at br;by_cases c8:s[a]=92
       . rw [ape c8] at br;have XJ:=apk c8;simp +contextual (maxSteps:=1000000) only [aW,bf,ay,g0,g1,ig,o0,ch,XJ,aQ,ao3 a1,ao8,↓aa,ad,simprocAttr];refine aX (akE s (a+1) p v b (af.set b (.bc [.str s,.int .i64 ((a+1:Nat):Int),.int .i64 p,.int .i64 0,v] 0 false)) (by rw [eC,ape rfl];rfl) (by omega) al (hm.cr dB)) ?_;rintro x ag ⟨ff,au⟩;have B3:Mod (fun q=>q=b) af ag:=((Mod.refl (fun q=>q=b) af).self _).trans ff;have rC:=hA.mod B3 (rW hA);have sW:=B3.next
         obtain ⟨c,ax,tV⟩:∃c:UInt8,x=.int .u8 (c.toNat:Int)/\((∃n,kL (s.drop (a+1))=some (c,n)/\ag.get b=e4 s ((a+1+n:Nat):Int) p 0 v/\a+1+n<=s.length)\/(kL (s.drop (a+1))=none/\∃bF:Nat,ag.get b=e4 s (bF:Int) p 252 v/\a+1<=bF/\bF<=s.length)):=by
          cases pS:kL (s.drop (a+1)) with
          | none=>
            rw [pS] at au;obtain ⟨⟨c,ax⟩,au⟩:=au;exact ⟨c,ax,.inr ⟨rfl,au⟩⟩
          | some q=>rw [pS] at au;exact ⟨q.1,au.1,.inl ⟨q.2,rfl,au.2⟩⟩
         subst ax;obtain ⟨v3,ar,ao,av,aC,ca⟩:=step ag (hm.trans B3) sW rC c;unfold e4 at tV;rcases tV with ⟨n,pS,l5,hle⟩ | ⟨pS,bF,l5,anZ,acn⟩
         . rw [l5] at ca;simp +contextual (maxSteps:=1000000) only [ao,aW,bf,ay,l5,ca,↓aa,ad,simprocAttr];rw [pS] at br;simp only at br;refine ⟨⟨a+1+n,0,cb++[c],rfl,hle,by omega,by simp;omega,aC,av,.inl ⟨rfl,?_⟩⟩,by omega⟩;rw [br,ap0,aqe];congr 1;funext q;simp only [Function.comp,apK,aqz,apX,aqp];omega
         . rw [l5] at ca;simp +contextual (maxSteps:=1000000) only [ao,aW,bf,ay,l5,ca,↓aa,ad,simprocAttr];rw [pS] at br;exact ⟨⟨bF,252,cb++[c],rfl,acn,by omega,by simp;omega,aC,av,.inr ⟨rfl,br⟩⟩,by omega⟩
       rw [ao_ c8] at br;by_cases c3:s[a]<32\/s[a]=127
       . rw [ape c3] at br;have tv:(decide (s[a]<32)||decide (s[a]=127))=true:=by simpa using c3
         obtain ⟨v3,ar,ao,av,aC,ca⟩:=step ((af.set b (.bc [.str s,.int .i64 ((a+1:Nat):Int),.int .i64 p,.int .i64 0,v] 0 false)).set b (.bc [.str s,.int .i64 ((a+1:Nat):Int),.int .i64 p,.int .i64 252,v] 0 false)) ((hm.self _).self _) (by rw [iT,iT];exact ao1 _) (hA.mod (((Mod.refl (fun q=>q=b) af).self _).self _) (rW hA)) s[a];simp only [iT,eC,apd] at ao ca;simp +contextual (maxSteps:=1000000) only [ao,aW,bf,ay,g0,g1,ig,o0,Br,Cq,ch,c8,tv,aQ,ca,ao3 a1,ao8,↓aa,ad,simprocAttr];exact ⟨⟨a+1,252,cb++[s[a]],rfl,by omega,by omega,by simp;omega,aC,av,.inr ⟨rfl,br⟩⟩,by omega⟩
       . rw [ao_ c3] at br;have tv:(decide (s[a]<32)||decide (s[a]=127))=false:=by simpa using c3
         obtain ⟨v3,ar,ao,av,aC,ca⟩:=step (af.set b (.bc [.str s,.int .i64 ((a+1:Nat):Int),.int .i64 p,.int .i64 0,v] 0 false)) (hm.self _) (by rw [iT];exact ao1 _) (hA.mod ((Mod.refl (fun q=>q=b) af).self _) (rW hA)) s[a];simp only [iT,eC,apd] at ao ca;simp +contextual (maxSteps:=1000000) only [ao,aW,bf,ay,g0,g1,ig,o0,Br,Cq,ch,c8,tv,aQ,ca,ao3 a1,ao8,↓aa,ad,simprocAttr];refine ⟨⟨a+1,0,cb++[s[a]],rfl,by omega,by omega,by simp;omega,aC,av,.inl ⟨rfl,?_⟩⟩,by omega⟩;rw [br,aqe];congr 1;funext q;simp only [Function.comp,apK,aqz,apX,aqp];omega
     . have g0:((a:Int) < (s.length:Int))=False:=apl (by omega);rw [apI (show s.length<=a by omega),Ty] at br;simp +contextual (maxSteps:=1000000) only [aW,bf,ay,g0,↓aa,ad,simprocAttr];exact KI s p a 0 cb v2 ws v b B h af IW ay aG dr gv al Ii (hm.cr dB) fe (by omega) hw Ih (.inr ⟨.inr ⟨rfl,by omega⟩,br⟩) _ (by simp only [aW,↓aa,ad,simprocAttr]) (by simp only [bf,↓aa,ad,simprocAttr]) _ (fun _ _ U=>⟨trivial,U⟩)
   . simp +contextual (maxSteps:=1000000) only [aW,bf,ay,↓aa,ad,simprocAttr];exact KI s p a 252 cb v2 ws v b B h af IW ay aG dr gv al Ii (hm.cr dB) fe (by omega) hw Ih (.inr ⟨.inl rfl,br⟩) _ (by simp only [aW,↓aa,ad,simprocAttr]) (by simp only [bf,↓aa,ad,simprocAttr]) _ (fun _ _ U=>⟨trivial,U⟩)
def Hg:cc:=match oV with
 | .seq _ (.seq (.block _ (.seq _ (.seq _ (.seq _ t)))) _)=>t
 | c=>c
def Hf:cc:=match oV with
 | .seq _ (.seq (.block _ (.seq _ (.seq _ (.seq (.block _ t) _)))) _)=>t
 | c=>c
theorem aln (r:List UInt8):pA (39::r)=.error 251:=by
 unfold pA;have h:∀L:List (List UInt8),(∀t ∈ L,t≠[]/\t.head? ≠some 39)->L.find? (·.isPrefixOf (39::r))=none:=by
  intro L gN;rw [List.find?_eq_none];intro t az;obtain ⟨ae,ag⟩:=gN t az;cases t with
  | nil=>exact absurd rfl ae
  | cons c t=>
    simp only [List.head?_cons,ne_eq,ao4] at ag;simp [List.isPrefixOf,ag]
 rw [h gG (by decide)]
theorem ahL (r:List UInt8):gg (39::r)=yg r:=by
 unfold yg;simp only [gg];rw [ao_ (by decide),ao_ (by decide),ao_ (by decide),ao_ (by decide)];cases h:o9 r with
 | true=>rw [ape (by simp),ape rfl]
 | false=>rw [ao_ (by simp),ao_ (by simp),aln]
theorem aar (s:List UInt8) (p:Nat) (ws:List aq) (v:V) (b:aO) (B:Nat) (h:ah) (ai:h.get b=e4 s p p 0 v) (aG:p<s.length) (al:s.length<=90000) (dR:dK B h 4 v ws.length (gZ ws)) (dB:Old h b) (fe:dP b<B) (cj:B<=h.next) (hw:ws.length<=90000)
 (r:a6) (cU:r 4=.ptr b 0) (b4:r 5=.int .u8 (s[p].toNat:Int)) (aR:List iy) (Q:eb->a6->ah->Prop)
 (b':∀bq af,bq 0=r 0->bq 3=r 3->bq 4=.ptr b 0->pJ s p b B ws h (gg (s.drop p)) af->bK Tryz.prog aR .normal bq af Q):
 bK Tryz.prog (.c Hf::aR) .normal r h Q:=by
 unfold Hf oV;have a_:=drop_cons aG;have rl:((s[p].toNat:Int)=95)=(s[p]=95):=lS _ 95 (by omega);have sr:((s[p].toNat:Int)=39)=(s[p]=39):=lS _ 39 (by omega);have ig:((s[p].toNat:Int)=34)=(s[p]=34):=lS _ 34 (by omega);rw [a_] at b';simp +contextual only [cU,b4,↓aa,ad,simprocAttr];refine bQ (oE _ _ _ _) ?_;rw [show gT (s[p].toNat:Int) 97 122=lq (s[p].toNat:Int) from rfl];have fin:∀(f:FuncId) (res:qp),res=gg (s[p]::s.drop (p+1))->True:=fun _ _ _=>trivial;have xP:(lq (s[p].toNat:Int)||decide (s[p]=95))=true->gg (s[p]::s.drop (p+1))=jx 3 (s.drop p)/\k7 (s[p].toNat:Int)=false/\d' s[p]=true:=by
  intro q;rw [ap7,apf] at q;have Iu:dU s[p]=false:=by
   rcases q with q | q
   . unfold lq at q;simp only [ao7,apf] at q;unfold dU n9;rw [show decide ((s[p].toNat:Int)<=57)=false from aqy (by omega),aqC]
   . rw [q];decide
  have H_:¬s[p]=34:=by
   rcases q with q | q
   . intro e;rw [e] at q;revert q;decide
   . rw [q];decide
  refine ⟨?_,?_,?_⟩
  . rw [a_];simp only [gg];rw [ao_ (by rw [Iu];exact apu),ao_ H_,ape (by rw [ap7,apf];exact q)]
  . rcases q with q | q
    . unfold lq at q;simp only [ao7,apf] at q;unfold k7;rw [show decide ((s[p].toNat:Int)<=90)=false from aqy (by omega),aqC]
    . rw [q];decide
  . exact q.elim K4 TN
 cases ae:lq (s[p].toNat:Int) with
 | true=>
   obtain ⟨ab,ay,aH⟩:=xP (by rw [ae];rfl);rw [ab] at b';simp +contextual only [cU,b4,↓aa,ad,simprocAttr];refine aX (KH s p 3 ws v b B h ai aG (by omega) dR dB fe cj hw (.inl ⟨rfl,ay⟩) aH) ?_;rintro x ag c1;simp +contextual only [cU,↓aa,ad,simprocAttr];exact b' _ _ (by simp only [↓aa,ad,simprocAttr]) (by simp only [↓aa,ad,simprocAttr]) (by simp only [cU,↓aa,ad,simprocAttr]) c1
 | false=>
   simp +contextual only [cU,b4,↓aa,ad,simprocAttr];refine bQ (oE _ _ _ _) ?_;rw [show gT (s[p].toNat:Int) 65 90=k7 (s[p].toNat:Int) from rfl];cases ag:k7 (s[p].toNat:Int) with
   | true=>
     have ay:=ag;unfold k7 at ay;simp only [ao7,apf] at ay;have ab:gg (s[p]::s.drop (p+1))=jx 4 (s.drop p):=by
      have Iu:dU s[p]=false:=by unfold dU n9;rw [show decide ((s[p].toNat:Int)<=57)=false from aqy (by omega),aqC]
      have H_:¬s[p]=34:=by intro e;rw [e] at ay;revert ay;decide
      have ab8:¬s[p]=95:=by intro e;rw [e] at ay;revert ay;decide
      rw [a_];simp only [gg];rw [ao_ (by rw [Iu];exact apu),ao_ H_,ao_ (by rw [ae];simpa using ab8),ape ag]
     rw [ab] at b';simp +contextual only [cU,b4,↓aa,ad,simprocAttr];refine aX (KH s p 4 ws v b B h ai aG (by omega) dR dB fe cj hw (.inr ⟨rfl,ag⟩) (PT ag)) ?_;rintro x ag c1;simp +contextual only [cU,↓aa,ad,simprocAttr];exact b' _ _ (by simp only [↓aa,ad,simprocAttr]) (by simp only [↓aa,ad,simprocAttr]) (by simp only [cU,↓aa,ad,simprocAttr]) c1
   | false=>
     by_cases ar:s[p]=95
     . obtain ⟨ab,ay,aH⟩:=xP (by rw [ar];rfl);rw [ab] at b';have Ei:=apk ar;simp +contextual only [cU,b4,rl,Ei,↓aa,ad,simprocAttr];refine aX (KH s p 3 ws v b B h ai aG (by omega) dR dB fe cj hw (.inl ⟨rfl,ay⟩) aH) ?_;rintro x ag c1;simp +contextual only [cU,↓aa,ad,simprocAttr];exact b' _ _ (by simp only [↓aa,ad,simprocAttr]) (by simp only [↓aa,ad,simprocAttr]) (by simp only [cU,↓aa,ad,simprocAttr]) c1
     . simp +contextual only [cU,b4,rl,ar,↓aa,ad,simprocAttr];refine bQ (oE _ _ _ _) ?_;rw [show gT (s[p].toNat:Int) 48 57=dU s[p] from rfl];have tW:¬(lq (s[p].toNat:Int)||decide (s[p]=95))=true:=by rw [ae];simpa using ar
       cases aT:dU s[p] with
       | true=>
         have ab:gg (s[p]::s.drop (p+1))=qW (s.drop p):=by rw [a_];simp only [gg];rw [ape aT]
         rw [ab] at b';simp +contextual only [cU,b4,↓aa,ad,simprocAttr];refine aX (akH s p ws v b B h ai aG (by omega) dR dB fe cj hw) ?_;rintro x ag c1;simp +contextual only [cU,↓aa,ad,simprocAttr];exact b' _ _ (by simp only [↓aa,ad,simprocAttr]) (by simp only [↓aa,ad,simprocAttr]) (by simp only [cU,↓aa,ad,simprocAttr]) c1
       | false=>
         have PY:¬dU s[p]=true:=by rw [aT];exact apu
         have ab2:¬k7 (s[p].toNat:Int)=true:=by rw [ag];exact apu
         by_cases bC:s[p]=39
         . have ab:gg (s[p]::s.drop (p+1))=yg (s.drop (p+1)):=by rw [bC];exact ahL _
           rw [ab] at b';have ab6:=apk bC;simp +contextual only [cU,b4,sr,ab6,↓aa,ad,simprocAttr];refine aX (akL s p ws v b B h ai aG (by omega) dR dB fe cj hw) ?_;rintro x ag c1;simp +contextual only [cU,↓aa,ad,simprocAttr];exact b' _ _ (by simp only [↓aa,ad,simprocAttr]) (by simp only [↓aa,ad,simprocAttr]) (by simp only [cU,↓aa,ad,simprocAttr]) c1
         . by_cases bA:s[p]=34
           . have ab:gg (s[p]::s.drop (p+1))=mP (s.drop (p+1)):=by simp only [gg];rw [ao_ PY,ape bA]
             rw [ab] at b';have ab7:=apk bA;simp +contextual only [cU,b4,sr,ig,bC,ab7,↓aa,ad,simprocAttr];refine aX (akK s p ws v b B h ai aG (by omega) dR dB fe cj hw) ?_;rintro x ag c1;simp +contextual only [cU,↓aa,ad,simprocAttr];exact b' _ _ (by simp only [↓aa,ad,simprocAttr]) (by simp only [↓aa,ad,simprocAttr]) (by simp only [cU,↓aa,ad,simprocAttr]) c1
           . have ab:gg (s[p]::s.drop (p+1))=pA (s.drop p):=by rw [a_];simp only [gg];rw [ao_ PY,ao_ bA,ao_ tW,ao_ ab2,ao_ (fun q=>bC q.1)]
             rw [ab] at b';simp +contextual only [cU,b4,sr,ig,bC,bA,↓aa,ad,simprocAttr];refine aX (akI s p ws v b B h ai aG (by omega) dR dB fe cj hw) ?_;rintro x ag c1;simp +contextual only [cU,↓aa,ad,simprocAttr];exact b' _ _ (by simp only [↓aa,ad,simprocAttr]) (by simp only [↓aa,ad,simprocAttr]) (by simp only [cU,↓aa,ad,simprocAttr]) c1
theorem NP:oV=.seq (match oV with | .seq x _=>x | c=>c) (.seq (.block 1 (.seq (match oV with | .seq _ (.seq (.block _ (.seq x _)) _)=>x | c=>c) (.seq (match oV with | .seq _ (.seq (.block _ (.seq _ (.seq x _))) _)=>x | c=>c) (.seq (.block 2 Hf) Hg)))) (match oV with | .seq _ (.seq _ x)=>x | c=>c)):=rfl
def Hh:cc:=match sh with
 | .seq _ (.seq _ (.seq _ (.seq _ (.seq _ t))))=>t
 | c=>c
theorem X7:sh=.seq (match sh with | .seq x _=>x | c=>c) (.seq (match sh with | .seq _ (.seq x _)=>x | c=>c) (.seq (match sh with | .seq _ (.seq _ (.seq x _))=>x | c=>c) (.seq (match sh with | .seq _ (.seq _ (.seq _ (.seq x _)))=>x | c=>c) (.seq (.seq (match sh with | .seq _ (.seq _ (.seq _ (.seq _ (.seq (.seq x _) _))))=>x | c=>c) (.block 0 (.loop oV))) Hh)))):=rfl
def Mf (s:List UInt8) (b:aO) (B:Nat) (af:ah):Prop:=∃(v:V),(∃(a:Nat) (cO:Int) (ws:List aq),af.get b=e4 s a cO 0 v/\a<=s.length/\ws.length<=a/\dK B af 4 v ws.length (gZ ws)/\iS s=Aa ws (l' (s.drop a) a)/\∀a1:a<s.length,blank s[a]=false/\([40,42]:List UInt8).isPrefixOf (s.drop a)=false)\/
 (∃(a e:Int) (cO:Nat),af.get b=e4 s a cO e v/\e≠0/\iS s=.error (e,cO))
theorem FK (s:List UInt8) (jS:Nat) (aL h:ah) (au:Ext aL h) (aF:jS=aL.next) (aoa:jS+2<=h.next) (bN:h.get (an jS)=.bc [.int .i64 0,.int .i64 0] 0 false)
 (a_:(∃(v:V) (cO:Int) (ws:List aq),h.get (an (jS+1))=e4 s s.length cO 0 v/\dK (jS+2) h 4 v ws.length (gZ ws)/\iS s=.ok ws)\/(∃(v:V) (a e:Int) (cO:Nat),h.get (an (jS+1))=e4 s a cO e v/\e≠0/\iS s=.error (e,cO)))
 (r:a6) (bU:r 3=.ptr (an jS) 0) (cU:r 4=.ptr (an (jS+1)) 0):
 bK Tryz.prog [.c Hh] .normal r h fun e r af=>e.ends/\∃aj,hz r af [.t 2,.eB 3 2]=some aj/\Gz s aL (oneOf aj) af:=by
 unfold Hh sh;subst aF;rcases a_ with ⟨v,cO,ws,ay,dR,aH⟩ | ⟨v,a,e,cO,ay,he,aH⟩
 . unfold e4 at ay;simp +contextual (maxSteps:=1000000) only [bU,cU,ay,bN,↓aa,ad,simprocAttr];refine ⟨au.set (ao1 _) _,?_⟩;rw [aH];refine ⟨v,rfl,?_⟩;have:=dR.mod ((Mod.refl (fun q=>q=an aL.next) h).self (.bc [.int .i64 0,.int .i64 0] 0 false)) (fun q aI e=>by have ag:=dR.base aI;rw [show q=an aL.next from e,dk] at ag;omega);exact this.mono (by omega)
 . unfold e4 at ay;simp +contextual (maxSteps:=1000000) only [bU,cU,ay,bN,he,↓aa,ad,simprocAttr];refine ⟨au.set (ao1 _) _,?_⟩;rw [aH]
theorem akF (s:List UInt8) (h:ah):dW Tryz.prog 26 [.str s] h (Gz s h):=by
 refine X6.z rfl (cl ?_);rw [X7];unfold sh;by_cases pc:(65536:Int) < (s.length:Int)
 . simp +contextual only [pc,↓aa,ad,simprocAttr];refine ⟨((Ext.refl h).new _).set (ao1 _) _,?_⟩;unfold iS;rw [ape (by omega)];rfl
 have hlen:¬65536<s.length:=by omega
 simp +contextual only [pc,↓aa,ad,simprocAttr];refine bQ (SP s (by omega) _) ?_;have au:Ext h (h.new (.bc [.int .i64 0,.int .i64 0] 0 false)):=(Ext.refl h).new _;by_cases U:qa s<s.length
 . have qF:((qa s:Int) < (s.length:Int))=True:=apk (by omega);simp +contextual only [qF,↓aa,ad,simprocAttr];refine bQ (SP s (by omega) _) ?_;simp +contextual only [qF,↓aa,ad,simprocAttr];refine ⟨au.set (ao1 _) _,?_⟩;unfold iS;rw [ao_ hlen,ape U]
 have qF:((qa s:Int) < (s.length:Int))=False:=apl (by omega);have l7:iS s=l' s 0:=by unfold iS;rw [ao_ hlen,ao_ U]
 simp +contextual only [qF,↓aa,ad,simprocAttr];have xt:Ext h ((h.new (.bc [.int .i64 0,.int .i64 0] 0 false)).new (.bc [.str s,.int .i64 0,.int .i64 0,.int .i64 0,.cS] 0 false)):=au.new _;refine aX (Te s 0 0 .cS (an (h.next+1)) _ (by simp only [↓aa,ad,simprocAttr]<;>rfl) (by omega) (by omega) (jJ (by simp only [hV];omega))) ?_;rintro x ae ⟨j8,adR⟩;have kv:Ext h ae:=xt.lg j8 (fun q aI=>by rw [show q=an (h.next+1) from aI,dk];omega);have Fj:h.next+2<=ae.next:=by have:=j8.next;simp only [hV] at this;omega
 have aee:ae.get (an h.next)=.bc [.int .i64 0,.int .i64 0] 0 false:=by rw [j8.get _ (jJ (by simp only [hV];omega)) (by rw [lN];omega)];simp only [↓aa,ad,simprocAttr]
 have adI:Mf s (an (h.next+1)) (h.next+2) ae:=by
  rcases adR with ⟨a,cO,ao,av,aC,bs,ca⟩ | ⟨cO,ao,av⟩
  . refine ⟨.cS,.inl ⟨a,cO,[],ao,aC,by simp,⟨rfl,rfl⟩,?_,ca⟩⟩;rw [l7,Sw,<-bs,apT]
  . refine ⟨.cS,.inr ⟨s.length,253,cO,ao,by decide,?_⟩⟩;rw [l7,<-av,apT]
 simp +contextual only [↓aa,ad,simprocAttr];refine gf (fun r af=>r 0=.str s/\r 3=.ptr (an h.next) 0/\r 4=.ptr (an (h.next+1)) 0/\Ext h af/\h.next+2<=af.next/\af.get (an h.next)=.bc [.int .i64 0,.int .i64 0] 0 false/\Mf s (an (h.next+1)) (h.next+2) af)
  (fun r af=>s.length - ((hc (af.get (an (h.next+1))) 1).getD .bad).toN) ?_ ?_
 . exact ⟨by simp only [↓aa,ad,simprocAttr],by simp only [↓aa,ad,simprocAttr],by simp only [↓aa,ad,simprocAttr],kv,Fj,aee,adI⟩
 . rintro r af ⟨aW,bU,cU,t',j9,bN,v,⟨a,cO,ws,ay,dr,kw,dR,br,sF⟩ | ⟨a,e,cO,ay,he,br⟩⟩
   . rw [NP];unfold oV;have Ey:=ay;unfold e4 at ay;by_cases a1:a<s.length
     . have g0:((a:Int) < (s.length:Int))=True:=apk (by omega);have g1:(0<=(a:Int))=True:=apk (by omega);obtain ⟨rE,lC⟩:=sF a1;rw [drop_cons a1,JF,rE,ao_ apu,<-drop_cons a1,lC,ao_ apu] at br;simp +contextual (maxSteps:=1000000) only [aW,bU,cU,ay,g0,g1,ao3 a1,ao8,↓aa,ad,simprocAttr];refine aar s a ws v (an (h.next+1)) (h.next+2) _ (by rw [eC,ape rfl];rfl) a1 (by omega) (pB dR (by rw [dk];omega) _) (jJ (by rw [iT];omega)) (by rw [dk];omega) (by rw [iT];omega) (by omega) _ (by simp only [cU,↓aa,ad,simprocAttr]) (by simp only [↓aa,ad,simprocAttr]) _ _ ?_;intro bq ag CZ Ac FD c1;simp only [↓aa,ad,simprocAttr] at CZ Ac;rw [aW] at CZ;rw [bU] at Ac;obtain ⟨ff,v2,a8⟩:=c1
       have xr:Ext h ag:=(t'.set (show h.next<=h.next+1 by omega) _).lg ff (fun q aI=>by
        rcases aI with ao | ao
        . rw [ao,dk];omega
        . omega)
       have sW:h.next+2<=ag.next:=by have:=ff.next;rw [iT] at this;omega
       have oj:ag.get (an h.next)=.bc [.int .i64 0,.int .i64 0] 0 false:=by rw [ff.get _ (jJ (by rw [iT];omega)) (fun q=>q.elim (fun q=>by rw [lN] at q;omega) (fun q=>by rw [dk] at q;omega)),eC,ao_ (by rw [lN];omega),bN]
       cases I0:gg (s.drop a) with
       | ok q=>
         have tT:=CJ I0;rw [I0] at br a8;obtain ⟨l5,hle,hA⟩:=a8;have BO:=l5;unfold e4 at BO;unfold Hg oV;simp +contextual (maxSteps:=1000000) only [CZ,Ac,FD,BO,↓aa,ad,simprocAttr];refine aX (Te s (a+q.2.2.2) a v2 (an (h.next+1)) ag l5 hle (by omega) (jJ (by omega))) ?_;rintro x ar ⟨xf,adS⟩;have aci:=hA.mod xf (fun q aI e=>by have:=hA.base aI;rw [show q=an (h.next+1) from e,dk] at this;omega);have vu:ar.get (an h.next)=.bc [.int .i64 0,.int .i64 0] 0 false:=by rw [xf.get _ (jJ (by omega)) (by rw [lN];omega),oj]
         have xt:Ext h ar:=xr.lg xf (fun q aI=>by rw [show q=an (h.next+1) from aI,dk];omega);have xP:h.next+2<=ar.next:=ao6 sW xf.next
         simp +contextual (maxSteps:=1000000) only [CZ,Ac,FD,↓aa,ad,simprocAttr];rcases adS with ⟨a3,HX,ao,av,aC,bs,ca⟩ | ⟨HX,ao,av⟩
         . refine ⟨⟨xt,xP,vu,v2,.inl ⟨a3,HX,ws++[⟨q.1,q.2.1,a,q.2.2.1⟩],ao,aC,by simp;omega,by rw [apb];exact aci,?_,ca⟩⟩,?_⟩
           . rw [br,Kx];simp only [ap0];rw [bs]
           . rw [ao];unfold e4;simp only [↓aa,ad,simprocAttr];omega
         . refine ⟨⟨xt,xP,vu,v2,.inr ⟨s.length,253,HX,ao,by decide,?_⟩⟩,?_⟩
           . rw [br,Kx];simp only [ap0];rw [av];rfl
           . rw [ao];unfold e4;simp only [↓aa,ad,simprocAttr];omega
       | error e=>
         rw [I0] at br a8;obtain ⟨he,a2,l5⟩:=a8;have BO:=l5;unfold e4 at BO;unfold Hg oV;simp +contextual (maxSteps:=1000000) only [CZ,Ac,FD,BO,he,↓aa,ad,simprocAttr];exact FK s h.next h ag xr rfl sW oj (.inr ⟨v2,a2,e,a,l5,he,br⟩) _ (by simp only [Ac,↓aa,ad,simprocAttr]) (by simp only [FD,↓aa,ad,simprocAttr])
     . have g0:((a:Int) < (s.length:Int))=False:=apl (by omega);have b1:a=s.length:=by omega
       simp +contextual (maxSteps:=1000000) only [aW,bU,cU,ay,g0,↓aa,ad,simprocAttr];refine FK s h.next h af t' rfl j9 bN (.inl ⟨v,cO,ws,by rw [Ey,b1],dR,?_⟩) _ (by simp only [bU,↓aa,ad,simprocAttr]) (by simp only [cU,↓aa,ad,simprocAttr])
       rw [br,b1,aqw];show Except.ok (ws++[])=_;rw [apo]
   . rw [NP];unfold oV;have Ey:=ay;unfold e4 at ay;by_cases a1:a < (s.length:Int)
     . simp +contextual (maxSteps:=1000000) only [aW,bU,cU,ay,a1,he,↓aa,ad,simprocAttr];exact FK s h.next h af t' rfl j9 bN (.inr ⟨v,a,e,cO,Ey,he,br⟩) _ (by simp only [bU,↓aa,ad,simprocAttr]) (by simp only [cU,↓aa,ad,simprocAttr])
     . simp +contextual (maxSteps:=1000000) only [aW,bU,cU,ay,a1,he,↓aa,ad,simprocAttr];exact FK s h.next h af t' rfl j9 bN (.inr ⟨v,a,e,cO,Ey,he,br⟩) _ (by simp only [bU,↓aa,ad,simprocAttr]) (by simp only [cU,↓aa,ad,simprocAttr])
end
section
open Go bg
set_option maxHeartbeats 40000000
set_option maxRecDepth 100000
noncomputable section
def Oz:cA Tryz.f9:=⟨_,by conv=>lhs;reduce;simp only [cx,simprocAttr]⟩
theorem YZ:wi 9 44 Tryz.f9 Oz.1 [.ch 2,.eB 3 2]:=⟨Tryz.func9,by kernel_rfl⟩
def NG:cA Tryz.f23:=⟨_,by conv=>lhs;reduce;simp only [cx,simprocAttr]⟩
theorem X3:cm 23 65 Tryz.f23 NG.1 [.eB 2 5]:=⟨Tryz.func23,by kernel_rfl⟩
def NN:cA Tryz.f24:=⟨_,by conv=>lhs;reduce;simp only [cx,simprocAttr]⟩
theorem X4:cm 24 11 Tryz.f24 NN.1 []:=⟨Tryz.func24,by kernel_rfl⟩
def NO:cA Tryz.f25:=⟨_,by conv=>lhs;reduce;simp only [cx,simprocAttr]⟩
theorem X5:cm 25 12 Tryz.f25 NO.1 []:=⟨Tryz.func25,by kernel_rfl⟩
def c49:cA Tryz.f49:=⟨_,by conv=>lhs;reduce;simp only [cx,simprocAttr]⟩
theorem Yi:cm 49 28 Tryz.f49 c49.1 [.t 2]:=⟨Tryz.func49,by kernel_rfl⟩
def N1:cA Tryz.f50:=⟨_,by conv=>lhs;reduce;simp only [cx,simprocAttr]⟩
theorem Yk:cm 50 15 Tryz.f50 N1.1 [.t 4]:=⟨Tryz.func50,by kernel_rfl⟩
def c51:cA Tryz.f51:=⟨_,by conv=>lhs;reduce;simp only [cx,simprocAttr]⟩
theorem Yl:cm 51 30 Tryz.f51 c51.1 [.t 2]:=⟨Tryz.func51,by kernel_rfl⟩
def N2:cA Tryz.f52:=⟨_,by conv=>lhs;reduce;simp only [cx,simprocAttr]⟩
theorem Ym:cm 52 31 Tryz.f52 N2.1 [.eB 4 4]:=⟨Tryz.func52,by kernel_rfl⟩
def N3:cA Tryz.f53:=⟨_,by conv=>lhs;reduce;simp only [cx,simprocAttr]⟩
theorem Yn:cm 53 22 Tryz.f53 N3.1 [.eB 4 5]:=⟨Tryz.func53,by kernel_rfl⟩
def N4:cA Tryz.f54:=⟨_,by conv=>lhs;reduce;simp only [cx,simprocAttr]⟩
theorem Yo:cm 54 30 Tryz.f54 N4.1 [.t 2]:=⟨Tryz.func54,by kernel_rfl⟩
def N5:cA Tryz.f55:=⟨_,by conv=>lhs;reduce;simp only [cx,simprocAttr]⟩
theorem Yp:wi 55 16 Tryz.f55 N5.1 [.eB 2 5]:=⟨Tryz.func55,by kernel_rfl⟩
def N6:cA Tryz.f56:=⟨_,by conv=>lhs;reduce;simp only [cx,simprocAttr]⟩
theorem Yq:wi 56 16 Tryz.f56 N6.1 [.eB 2 5]:=⟨Tryz.func56,by kernel_rfl⟩
def N7:cA Tryz.f57:=⟨_,by conv=>lhs;reduce;simp only [cx,simprocAttr]⟩
theorem Yr:cm 57 11 Tryz.f57 N7.1 []:=⟨Tryz.func57,by kernel_rfl⟩
def OA:cA Tryz.f97:=⟨_,by conv=>lhs;reduce;simp only [cx,simprocAttr]⟩
theorem YW:cm 97 26 Tryz.f97 OA.1 [.t 4]:=⟨Tryz.func97,by kernel_rfl⟩
def OB:cA Tryz.f98:=⟨_,by conv=>lhs;reduce;simp only [cx,simprocAttr]⟩
theorem YX:cm 98 10 Tryz.f98 OB.1 [.eB 1 5]:=⟨Tryz.func98,by kernel_rfl⟩
def OC:cA Tryz.f99:=⟨_,by conv=>lhs;reduce;simp only [cx,simprocAttr]⟩
theorem YY:cm 99 30 Tryz.f99 OC.1 [.t 4]:=⟨Tryz.func99,by kernel_rfl⟩
def MI:cA Tryz.f100:=⟨_,by conv=>lhs;reduce;simp only [cx,simprocAttr]⟩
theorem WT:cm 100 11 Tryz.f100 MI.1 []:=⟨Tryz.func100,by kernel_rfl⟩
def MJ:cA Tryz.f101:=⟨_,by conv=>lhs;reduce;simp only [cx,simprocAttr]⟩
theorem WU:wi 101 16 Tryz.f101 MJ.1 [.eB 2 5]:=⟨Tryz.func101,by kernel_rfl⟩
def MK:cA Tryz.f102:=⟨_,by conv=>lhs;reduce;simp only [cx,simprocAttr]⟩
theorem WV:cm 102 16 Tryz.f102 MK.1 [.eB 4 5]:=⟨Tryz.func102,by kernel_rfl⟩
def ML:cA Tryz.f103:=⟨_,by conv=>lhs;reduce;simp only [cx,simprocAttr]⟩
theorem WW:cm 103 18 Tryz.f103 ML.1 []:=⟨Tryz.func103,by kernel_rfl⟩
def Ha:cA Tryz.f104:=⟨_,by conv=>lhs;reduce;simp only [cx,simprocAttr]⟩
theorem MM:cm 104 9 Tryz.f104 Ha.1 []:=⟨Tryz.func104,by kernel_rfl⟩
def MN:cA Tryz.f105:=⟨_,by conv=>lhs;reduce;simp only [cx,simprocAttr]⟩
theorem WX:cm 105 37 Tryz.f105 MN.1 [.eB 2 5]:=⟨Tryz.func105,by kernel_rfl⟩
def MO:cA Tryz.f106:=⟨_,by conv=>lhs;reduce;simp only [cx,simprocAttr]⟩
theorem WY:cm 106 14 Tryz.f106 MO.1 [.eB 6 5]:=⟨Tryz.func106,by kernel_rfl⟩
def MP:cA Tryz.f107:=⟨_,by conv=>lhs;reduce;simp only [cx,simprocAttr]⟩
theorem WZ:cm 107 60 Tryz.f107 MP.1 [.eB 2 5]:=⟨Tryz.func107,by kernel_rfl⟩
def Nc:cA Tryz.f146:=⟨_,by conv=>lhs;reduce;simp only [cx,simprocAttr]⟩
theorem Xm:cm 146 13 Tryz.f146 Nc.1 [.eB 2 5]:=⟨Tryz.func146,by kernel_rfl⟩
def Nd:cA Tryz.f147:=⟨_,by conv=>lhs;reduce;simp only [cx,simprocAttr]⟩
theorem Xn:cm 147 66 Tryz.f147 Nd.1 [.eB 2 5]:=⟨Tryz.func147,by kernel_rfl⟩
def Nf:cA Tryz.f148:=⟨_,by conv=>lhs;reduce;simp only [cx,simprocAttr]⟩
theorem Xo:cm 148 17 Tryz.f148 Nf.1 [.t 4]:=⟨Tryz.func148,by kernel_rfl⟩
def Ng:cA Tryz.f149:=⟨_,by conv=>lhs;reduce;simp only [cx,simprocAttr]⟩
theorem Xp:cm 149 36 Tryz.f149 Ng.1 [.eB 4 5]:=⟨Tryz.func149,by kernel_rfl⟩
def Nh:cA Tryz.f150:=⟨_,by conv=>lhs;reduce;simp only [cx,simprocAttr]⟩
theorem Xq:cm 150 20 Tryz.f150 Nh.1 [.eB 6 5]:=⟨Tryz.func150,by kernel_rfl⟩
def Ni:cA Tryz.f151:=⟨_,by conv=>lhs;reduce;simp only [cx,simprocAttr]⟩
theorem Xr:cm 151 13 Tryz.f151 Ni.1 [.eB 2 5]:=⟨Tryz.func151,by kernel_rfl⟩
def Nq:cA Tryz.f184:=⟨_,by conv=>lhs;reduce;simp only [cx,simprocAttr]⟩
theorem XC:cm 184 17 Tryz.f184 Nq.1 [.eB 2 5]:=⟨Tryz.func184,by kernel_rfl⟩
def Nr:cA Tryz.f185:=⟨_,by conv=>lhs;reduce;simp only [cx,simprocAttr]⟩
theorem XD:cm 185 8 Tryz.f185 Nr.1 [.t 2]:=⟨Tryz.func185,by kernel_rfl⟩
def Ns:cA Tryz.f186:=⟨_,by conv=>lhs;reduce;simp only [cx,simprocAttr]⟩
theorem XE:cm 186 22 Tryz.f186 Ns.1 [.t 2]:=⟨Tryz.func186,by kernel_rfl⟩
def Nt:cA Tryz.f187:=⟨_,by conv=>lhs;reduce;simp only [cx,simprocAttr]⟩
theorem XF:cm 187 20 Tryz.f187 Nt.1 [.eB 2 5]:=⟨Tryz.func187,by kernel_rfl⟩
def c206:cA Tryz.f206:=⟨_,by conv=>lhs;reduce;simp only [cx,simprocAttr]⟩
theorem XK:cm 206 52 Tryz.f206 c206.1 [.eB 2 5]:=⟨Tryz.func206,by kernel_rfl⟩
def DL:cA Tryz.f207:=⟨_,by conv=>lhs;reduce;simp only [cx,simprocAttr]⟩
theorem Hd:cm 207 32 Tryz.f207 DL.1 [.eB 4 5]:=⟨Tryz.func207,by kernel_rfl⟩
def c208:cA Tryz.f208:=⟨_,by conv=>lhs;reduce;simp only [cx,simprocAttr]⟩
theorem XL:cm 208 21 Tryz.f208 c208.1 [.t 4,.t 5]:=⟨Tryz.func208,by kernel_rfl⟩
def Ny:cA Tryz.f209:=⟨_,by conv=>lhs;reduce;simp only [cx,simprocAttr]⟩
theorem XM:cm 209 14 Tryz.f209 Ny.1 [.eB 6 5]:=⟨Tryz.func209,by kernel_rfl⟩
def NB:cA Tryz.f223:=⟨_,by conv=>lhs;reduce;simp only [cx,simprocAttr]⟩
theorem XR:wi 223 27 Tryz.f223 NB.1 [.eB 2 5]:=⟨Tryz.func223,by kernel_rfl⟩
def NC:cA Tryz.f224:=⟨_,by conv=>lhs;reduce;simp only [cx,simprocAttr]⟩
theorem XS:cm 224 6 Tryz.f224 NC.1 [.t 0]:=⟨Tryz.func224,by kernel_rfl⟩
def NF:cA Tryz.f229:=⟨_,by conv=>lhs;reduce;simp only [cx,simprocAttr]⟩
theorem XU:cm 229 40 Tryz.f229 NF.1 [.eB 2 5]:=⟨Tryz.func229,by kernel_rfl⟩
def NI:cA Tryz.f231:=⟨_,by conv=>lhs;reduce;simp only [cx,simprocAttr]⟩
theorem XY:cm 231 69 Tryz.f231 NI.1 [.eB 2 5]:=⟨Tryz.func231,by kernel_rfl⟩
def NJ:cA Tryz.f232:=⟨_,by conv=>lhs;reduce;simp only [cx,simprocAttr]⟩
theorem XZ:cm 232 22 Tryz.f232 NJ.1 [.t 2]:=⟨Tryz.func232,by kernel_rfl⟩
end
end
section
open Go bg
theorem TX:∀W:List aq,gZ W=(W.map aq.enc).flatten
 | []=>rfl
 | w::W=>by rw [gZ,TX W];rfl
theorem F' {W:List aq} {i:Nat} (aM:i<W.length):((gZ W).drop (i * 4)).take 4=(W[i]).enc:=by rw [TX];exact HT (W.map aq.enc) i _ (fun u hu=>by obtain ⟨w,_,rfl⟩:=List.mem_map.1 hu;rfl) (by simp [aM])
structure ed (W:List aq) (ab ak:Nat) (h:ah) (d:Nat) (ws:List aq) (aA:V) (i:Nat):Prop where
 at_:Has h ak [aA,.int .i64 i,.int .i64 ab,.int .i64 d]
 c7:hy h 4 aA W.length (gZ W)
 ap:¬aA.bn (an ak)
 le:i<=W.length
 eq:ws=W.drop i
 nF:W.length<=1000000
 wM:d<=1000
 fj:∀w ∈ W,w.text.length<=100000
 num:∀w ∈ W,w.kind=1->-1073741824<=w.num/\w.num<=1073741823
section
variable {W:List aq} {ab ak:Nat} {h af:ah} {d:Nat} {ws:List aq} {aA:V} {i:Nat}
abbrev b3 (ak:Nat):aO->Prop:=fun b=>b=an ak
theorem ed.ext (c:ed W ab ak h d ws aA i) (e:Ext h af):ed W ab ak af d ws aA i:=⟨c.at_.ext e,c.c7.mod (e.mod (fun _=>False)) (fun _ _ q=>q),c.ap,c.le,c.eq,c.nF,c.wM,c.fj,c.num⟩
theorem ed.put (c:ed W ab ak h d ws aA i) {fX dE:Nat} {bS:List aq} (aM:fX<=W.length) (he:bS=W.drop fX) (a_:dE<=1000):ed W ab ak (h.set (an ak) (.bc [aA,.int .i64 fX,.int .i64 ab,.int .i64 dE] 0 false)) dE bS aA fX:=
 ⟨c.at_.put _,c.c7.mod ((Mod.refl (b3 ak) h).set (fun _=>rfl) _) (fun b ai q=>c.ap (by rw [<-show b=an ak from q];exact ai)),c.ap,aM,he,c.nF,a_,c.fj,c.num⟩
theorem ed.box {H:ah} {dE:Nat} {bS:List aq} {fX:Nat} (c:ed W ab ak h d ws aA i) (eX:ed W ab ak H dE bS aA fX) {n:Nat} (aF:h.next<=n) (k:c'):ed W ab ak (H.set (an n) k) dE bS aA fX:=
 ⟨eX.at_.set (by have:=c.at_.lt;omega) k,eX.c7.mod ((Mod.refl (fun b=>b=an n) H).set (fun _=>rfl) k) (fun b ai q=>dh aF (by rw [<-show b=an n from q];exact c.c7.cr ai)),c.ap,eX.le,eX.eq,c.nF,eX.wM,c.fj,c.num⟩
theorem ed.len (c:ed W ab ak h d ws aA i):l9 aA=some (.int .i64 W.length):=c.c7.len
theorem ed.word (c:ed W ab ak h d ws aA i) {j:Nat} (cY:j<W.length):∃b o,mG 4 aA (.int .i64 j)=some (.ptr b o)/\hc (h.get b) o=some (.int .i64 W[j].kind)/\hc (h.get b) (o+1)=some (.int .i64 W[j].num)/\hc (h.get b) (o+2)=some (.int .i64 W[j].pos)/\hc (h.get b) (o+3)=some (.str W[j].text)/\
 rT 4 (h.get b) o=some (.agg W[j].enc):=by
 obtain ⟨b,off,ao,av⟩:=c.c7.mF (k:=.i64) cY;have aH:(gZ W).length=W.length * 4:=Lu W;have cell:∀k,k<4->hc (h.get b) (off+j * 4+k)=(W[j].enc)[k]? :=fun k aD=>av.cell (F' cY) (by omega) aD;refine ⟨b,off+j * 4,ao,cell 0 (by omega),cell 1 (by omega),cell 2 (by omega),cell 3 (by omega),?_⟩;have:=av.lb (i:=j * 4) (n:=4) (by omega);rw [this,F' cY]
theorem ed.here {w:aq} {r:List aq} (c:ed W ab ak h d (w::r) aA i):i<W.length/\r=W.drop (i+1)/\∃b o,mG 4 aA (.int .i64 i)=some (.ptr b o)/\hc (h.get b) o=some (.int .i64 w.kind)/\hc (h.get b) (o+1)=some (.int .i64 w.num)/\hc (h.get b) (o+2)=some (.int .i64 w.pos)/\hc (h.get b) (o+3)=some (.str w.text)/\
 rT 4 (h.get b) o=some (.agg w.enc):=by
 have aM:i<W.length:=by
  rcases aqc i W.length with q | q
  . exact q
  . have:=c.eq;rw [apI q] at this;cases this
 have e:=c.eq;rw [apB aM] at e;obtain ⟨aP,bu⟩:=List.cons.inj e;obtain ⟨b,o,q⟩:=c.word aM;rw [<-aP] at q;exact ⟨aM,bu,b,o,q⟩
theorem ed.done (c:ed W ab ak h d [] aA i):i=W.length:=by have e:=c.eq;have:=congrArg List.length e;simp only [aph,apr] at this;have:=c.le;omega
end
def cF (e:Int × Nat):V:=.iface 54 (.agg [.int .i64 e.1,.int .i64 (e.2:Nat)])
def kI (W:List aq) (ab:Nat) (e:Int × Nat):Prop:=(e.1=270\/e.1=271)/\∃i,e.2=bG ab (W.drop i)
def tk {α:Type} (W:List aq) (ab ak:Nat) (aL:ah) (res:bH α) (x:V) (af:ah):Prop:=∃e,res=.error e/\x=cF e/\Mod (b3 ak) aL af/\∃l a b c,Has af ak [l,.int .i64 a,.int .i64 b,.int .i64 c]/\kI W ab e
section
variable {W:List aq} {ab ak:Nat} {h af:ah} {d:Nat} {ws:List aq} {aA:V} {i:Nat}
theorem q2 (C:ed W ab ak h d ws aA i):e' Tryz.prog 49 [.ptr (an ak) 0] h (.int .i64 (bG ab ws)) h:=by
 refine jj (Yi.z rfl (cl ?_));unfold c49;cases ws with
 | nil=>
   have aM:=C.done;have f0:((i:Int) < (W.length:Int))=False:=apl (by omega);simp only [C.at_.g,C.len,f0,↓aa,ad,simprocAttr];rfl
 | cons w r=>
   obtain ⟨aM,_,b,o,ao,av,aC,bs,ca,cD⟩:=C.here;have f0:((i:Int) < (W.length:Int))=True:=apk (by omega);simp only [C.at_.g,C.len,f0,ao,bs,↓aa,ad,simprocAttr];rfl
theorem kb (C:ed W ab ak h d ws aA i) (k:Int):e' Tryz.prog 99 [.ptr (an ak) 0,.int .i64 k] h (.bool (cJ k ws)) h:=by
 refine jj (YY.z rfl (cl ?_));unfold OC;cases ws with
 | nil=>
   have aM:=C.done;have f0:((i:Int) < (W.length:Int))=False:=apl (by omega);simp only [C.at_.g,C.len,f0,↓aa,ad,simprocAttr];rfl
 | cons w r=>
   obtain ⟨aM,_,b,o,ao,av,aC,bs,ca,cD⟩:=C.here;have f0:((i:Int) < (W.length:Int))=True:=apk (by omega);simp only [C.at_.g,C.len,f0,ao,av,ap_,↓aa,ad,simprocAttr];rfl
theorem Ta (C:ed W ab ak h d ws aA i) (s:List UInt8):e' Tryz.prog 97 [.ptr (an ak) 0,.str s] h (.bool (bb s ws)) h:=by
 refine jj (YW.z rfl (cl ?_));unfold OA;simp only [↓aa,ad,simprocAttr];refine bQ (kb C 7) ?_;cases ws with
 | nil=>
   have jR:cJ 7 []=false:=rfl;have hU:cJ 6 []=false:=rfl;simp only [jR,↓aa,ad,simprocAttr];refine bQ (kb C 6) ?_;simp only [hU,↓aa,ad,simprocAttr];rfl
 | cons w r=>
   obtain ⟨aM,_,b,o,ao,av,aC,bs,ca,cD⟩:=C.here;by_cases jR:w.kind=7
   . have dI:cJ 7 (w::r)=true:=by simp [cJ,jR]
     have es:bb s (w::r)=decide (w.text=s):=by simp [bb,jR]
     simp only [dI,↓aa,ad,simprocAttr];simp only [C.at_.g,C.len,ao,ca,es,↓aa,ad,simprocAttr]
   . have dI:cJ 7 (w::r)=false:=by simp [cJ,jR]
     simp only [dI,↓aa,ad,simprocAttr];refine bQ (kb C 6) ?_;by_cases hU:w.kind=6
     . have eS:cJ 6 (w::r)=true:=by simp [cJ,hU]
       have es:bb s (w::r)=decide (w.text=s):=by simp [bb,hU]
       simp only [eS,↓aa,ad,simprocAttr];simp only [C.at_.g,C.len,ao,ca,es,↓aa,ad,simprocAttr]
     . have eS:cJ 6 (w::r)=false:=by simp [cJ,hU]
       have es:bb s (w::r)=false:=by simp [bb,hU,jR]
       simp only [eS,↓aa,ad,simprocAttr];simp only [es]
theorem hs (C:ed W ab ak h d ws aA i) (s:List UInt8):dW Tryz.prog 50 [.ptr (an ak) 0,.str s] h fun x af=>x=.bool (bb s ws)/\Mod (b3 ak) h af/\∃fX,ed W ab ak af d (if bb s ws then ws.tail else ws) aA fX:=by
 refine Yk.z rfl (cl ?_);unfold N1;simp only [↓aa,ad,simprocAttr];refine bQ (Ta C s) ?_;cases al:bb s ws with
 | false=>
   simp only [↓aa,ad,simprocAttr];exact ⟨Mod.refl _ _,i,C⟩
 | true=>
   cases ws with
   | nil=>cases al
   | cons w r=>
     obtain ⟨aM,HO,_⟩:=C.here;have ai:=C.nF;have lr:=uO aM (by omega);simp only [C.at_.g,lr,↓aa,ad,simprocAttr];exact ⟨(Mod.refl (b3 ak) h).set (fun _=>rfl) _,i+1,C.put (fX:=i+1) (dE:=d) aM HO C.wM⟩
theorem ed.pl (C:ed W ab ak h d ws aA i) {k:Int} (aD:k=270\/k=271):kI W ab (k,bG ab ws):=⟨aD,i,by rw [C.eq]⟩
theorem A7 (C:ed W ab ak h d ws aA i) (e:Int) (a:Nat) (aG:kI W ab (e,a)) {α:Type}:j2 Tryz.prog 57 [.ptr (an ak) 0,.int .i64 e,.int .i64 (a:Nat)] h (fun _ _=>False) (tk (α:=α) W ab ak h (.error (e,a))):=by refine Yr.x rfl (cl ?_);unfold N7;simp only [↓aa,ad,simprocAttr,Q4,TA,Fq,EZ,DY];exact ⟨(e,a),rfl,rfl,Mod.refl _ _,_,_,_,_,C.at_,aG⟩
theorem kR (C:ed W ab ak h d ws aA i) (s:List UInt8):j2 Tryz.prog 25 [.ptr (an ak) 0,.str s] h (fun x af=>∃bS,ec ab s ws=.ok bS/\Mod (b3 ak) h af/\∃fX,ed W ab ak af d bS aA fX) (tk W ab ak h (ec ab s ws)):=by
 refine X5.x rfl (cl ?_);unfold NO;simp only [↓aa,ad,simprocAttr];refine aX (hs C s) ?_;rintro x ae ⟨rfl,m1,i1,cy⟩;cases al:bb s ws with
 | true=>
   rw [al,ape rfl] at cy;simp only [Pe,↓aa,ad,simprocAttr];exact ⟨ws.tail,by simp [ec,al],m1,i1,cy⟩
 | false=>
   rw [al,ao_ apu] at cy;simp only [↓aa,ad,simprocAttr];refine bQ (q2 cy) ?_;simp only [↓aa,ad,simprocAttr];refine cH (A7 (α:=List aq) cy 270 (bG ab ws) (cy.pl (.inl rfl))) (fun _ _ q=>q.elim) ?_;rintro x ag ⟨e,he,rfl,m2,bo⟩;cases he;simp only [cF,Fq,EZ,DY];exact ⟨(270,bG ab ws),by simp [ec,al],rfl,m1.trans m2,bo⟩
theorem mQ (C:ed W ab ak h d ws aA i) (k:Int):j2 Tryz.prog 52 [.ptr (an ak) 0,.int .i64 k] h (fun x af=>∃q,fg ab k ws=.ok q/\x=.agg q.1.enc/\(q.1 ∈ W/\q.1.kind=k)/\Mod (b3 ak) h af/\∃fX,ed W ab ak af d q.2 aA fX) (tk W ab ak h (fg ab k ws)):=by
 refine Ym.x rfl (cl ?_);unfold N2;obtain ⟨aL,mM,ek,yp⟩:=fU h [.int .i64 0,.int .i64 0,.int .i64 0,.str []];have nY:=C.ext ek;have dY:ak≠h.next:=by have:=C.at_.lt;omega
 simp only [mM,↓aa,ad,simprocAttr];refine bQ (kb nY k) ?_;cases aD:cJ k ws with
 | false=>
   simp only [↓aa,ad,simprocAttr];refine bQ (q2 nY) ?_;simp only [↓aa,ad,simprocAttr];refine cH (A7 (α:=aq × List aq) nY 270 (bG ab ws) (nY.pl (.inl rfl))) (fun _ _ q=>q.elim) ?_;rintro x ag ⟨e,he,rfl,m2,bo⟩;cases he;simp only [cF,Fq,EZ,DY,↓aa,ad,simprocAttr];refine ⟨(270,bG ab ws),?_,rfl,(ek.mod _).trans m2,bo⟩;cases ws with
   | nil=>rfl
   | cons w r=>simp only [cJ,apV] at aD;simp [fg,aD,bG]
 | true=>
   cases ws with
   | nil=>cases aD
   | cons w r=>
     obtain ⟨aM,HO,_⟩:=nY.here;have By:w=W[i]:=by have e:=nY.eq;rw [apB aM] at e;exact (List.cons.inj e).1
     have ai:=C.nF;have lr:=uO aM (by omega);have aQ:IntKind.i64.wrap (((i+1:Nat):Int)-1)=(i:Nat):=by rw [wrap_i64 (by omega) (by omega)];omega
     have cy:=nY.put (fX:=i+1) (dE:=d) aM HO C.wM;have bz:=yp.set dY.symm (.bc [aA,.int .i64 (i+1:Nat),.int .i64 ab,.int .i64 d] 0 false);obtain ⟨b,o,ao,av,aC,bs,ca,cD⟩:=cy.word aM;simp only [nY.at_.g,lr,↓aa,ad,simprocAttr];generalize pN:aL.set (an ak) (.bc [aA,.int .i64 (i+1:Nat),.int .i64 ab,.int .i64 d] 0 false)=H at cy bz av aC bs ca cD ⊢;simp only [cy.at_.g,bz.g,aQ,ao,cD,aq.enc,↓aa,ad,simprocAttr];have ft:=bz.put [.int .i64 W[i].kind,.int .i64 W[i].num,.int .i64 W[i].pos,.str W[i].text];simp only [ft.g,aY,↓aa,ad,simprocAttr];refine ⟨(w,r),?_,by rw [By],⟨by rw [By];exact ap8 aM,by simpa only [cJ,apf] using aD⟩,?_,i+1,C.box (pN ▸ cy) (ao1 _) _⟩
     . simp only [cJ,apf] at aD;simp [fg,aD]
     . rw [<-pN];exact (((ek.mod (b3 ak)).set (b:=an ak) (fun _=>rfl) _)).set (fun o=>absurd o (dh (ao1 _))) _
theorem D3 (C:ed W ab ak h d ws aA i):j2 Tryz.prog 103 [.ptr (an ak) 0] h (fun x af=>d<1000/\Mod (b3 ak) h af/\ed W ab ak af (d+1) ws aA i) (fun x af=>1000<=d/\tk (α:=aN) W ab ak h (.error (271,bG ab ws)) x af):=by
 refine WW.x rfl (cl ?_);unfold ML;by_cases a_:d<1000
 . have f0:(1000<=(d:Int))=False:=apl (by omega);have wd:IntKind.i64.wrap ((d:Int)+1)=((d+1:Nat):Int):=by rw [wrap_i64 (by omega) (by omega)];rfl
   simp only [C.at_.g,f0,wd,aY,↓aa,ad,simprocAttr];exact ⟨a_,(Mod.refl (b3 ak) h).set (fun _=>rfl) _,C.put (fX:=i) (dE:=d+1) C.le C.eq a_⟩
 . have f0:(1000<=(d:Int))=True:=apk (by omega);simp only [C.at_.g,f0,↓aa,ad,simprocAttr];refine bQ (q2 C) ?_;simp only [↓aa,ad,simprocAttr];refine cH (A7 (α:=aN) C 271 (bG ab ws) (C.pl (.inr rfl))) (fun _ _ q=>q.elim) ?_;rintro x ag ⟨e,he,rfl,m2,bo⟩;cases he;simp only [cF,aY,↓aa,ad,simprocAttr];exact ⟨by omega,(271,bG ab ws),rfl,rfl,m2,bo⟩
theorem ue {u:Option V} (C:ed W ab ak h (d+1) ws aA i):pE Tryz.prog 104 [.ptr (an ak) 0] u h fun fy af=>fy=u/\Mod (b3 ak) h af/\ed W ab ak af d ws aA i:=by
 refine MM.d rfl (cl ?_);unfold Ha;have a_:=C.wM;have wd:IntKind.i64.wrap (((d+1:Nat):Int)-1)=(d:Int):=by rw [wrap_i64 (by omega) (by omega)];omega
 simp only [C.at_.g,wd,↓aa,ad,simprocAttr];exact ⟨(Mod.refl (b3 ak) h).set (fun _=>rfl) _,C.put (fX:=i) (dE:=d) C.le C.eq (by omega)⟩
theorem uf {u:Option V} {l:V} {a b c:Int} (C:Has h ak [l,.int .i64 a,.int .i64 b,.int .i64 c]):pE Tryz.prog 104 [.ptr (an ak) 0] u h fun fy af=>fy=u/\Mod (b3 ak) h af/\∃l a b c,Has af ak [l,.int .i64 a,.int .i64 b,.int .i64 c]:=by refine MM.d rfl (cl ?_);unfold Ha;simp only [C.g,↓aa,ad,simprocAttr];exact ⟨(Mod.refl (b3 ak) h).set (fun _=>rfl) _,_,_,_,_,C.put _⟩
theorem Pt (C:ed W ab ak h d ws aA i) {l:List aN} {da:V} (aH:l9 da=some (.int .i64 l.length)):j2 Tryz.prog 100 [.ptr (an ak) 0,da] h (fun x af=>js ab l ws=.ok ()/\af=h) (tk W ab ak h (js ab l ws)):=by
 refine WT.x rfl (cl ?_);unfold MI;by_cases vi:l.length=64
 . have f0:((l.length:Int)=64)=True:=apk (by omega);simp only [aH,f0,↓aa,ad,simprocAttr];refine bQ (q2 C) ?_;simp only [↓aa,ad,simprocAttr];refine cH (A7 (α:=Unit) C 270 (bG ab ws) (C.pl (.inl rfl))) (fun _ _ q=>q.elim) ?_;rintro x ag ⟨e,he,rfl,m2,bo⟩;cases he;simp only [cF,aY,↓aa,ad,simprocAttr];exact ⟨(270,bG ab ws),by simp [js,vi],rfl,m2,bo⟩
 . have f0:((l.length:Int)=64)=False:=apl (by omega);simp only [aH,f0,aY,↓aa,ad,simprocAttr];simp [js,vi]
theorem ahD (n:Int) (aL:-1073741824<=n) (ae:n<=1073741823) (h:ah):e' Tryz.prog 185 [.int .i64 n] h (.int .i64 (sU n)) h:=by
 refine jj (XD.z rfl (cl ?_));unfold Nr sU;by_cases aF:n=-1073741824
 . simp only [aF,↓aa,ad,simprocAttr]
 . have w:IntKind.i64.wrap (0-n)=-n:=by rw [wrap_i64 (by omega) (by omega)];omega
   simp only [aF,w,↓aa,ad,simprocAttr]
end
end
end Go.Proofs.YtahfljfikfkpnaaGreatDoor
