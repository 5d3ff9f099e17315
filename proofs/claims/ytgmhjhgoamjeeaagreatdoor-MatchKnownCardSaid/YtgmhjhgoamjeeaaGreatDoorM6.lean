/- The chapter's functions, walked by the abstract machine: plain lemmas, no condition. Printed by a program from longer texts: names made short. -/
import Derived.Test.YtgmhjhgoamjeeaaGreatDoorM5
import Derived.Test.YtgmhjhgoamjeeaaGreatDoorM3
import Derived.Test.YtgmhjhgoamjeeaaGreatDoorM4
import Derived.Shelf.Strings.Search3
import Derived.MakeChecks
import Derived.Shelf.Vars
import Derived.Lay
import Derived.LaidLaws
import Derived.Lib.LaidTab
import Derived.Lib.LaidU8T
import Derived.Test.YtgmhjhgoamjeeaaGreatDoorRows
set_option linter.unusedSectionVars false
set_option linter.unusedSimpArgs false
set_option linter.unusedVariables false
set_option maxHeartbeats 64000000
noncomputable section
namespace Go.Proofs.YtgmhjhgoamjeeaaGreatDoor
section
open Go aX
inductive aQ where
 | mk (k n a:Int) (s:List UInt8) (l:List aQ)
namespace aQ
def k:aQ->Int | mk k _ _ _ _=>k
def n:aQ->Int | mk _ n _ _ _=>n
def a:aQ->Int | mk _ _ a _ _=>a
def s:aQ->List UInt8 | mk _ _ _ s _=>s
def l:aQ->List aQ | mk _ _ _ _ l=>l
end aQ
mutual
def aQ.size:aQ->Nat
 | .mk _ _ _ _ l=>1+cA l
def cA:List aQ->Nat
 | []=>0
 | t::l=>t.size+cA l
end
theorem qh {t:aQ}:∀{l:List aQ},t ∈ l->t.size<=cA l
 | [],h=>by cases h
 | u::l,h=>by
   simp only [cA];rcases apJ.1 h with rfl | h
   . omega
   . have:=qh h;omega
theorem za {t u:aQ} (h:u ∈ t.l):u.size<t.size:=by
 cases t with
 | mk k n a s l=>have:=qh h;simp only [aQ.size];simp only [aQ.l] at this;omega
theorem ni:∀l:List aQ,l.length<=cA l
 | []=>apv _
 | t::l=>by have:=ni l;have:1<=t.size:=by (cases t;simp only [aQ.size];omega)
            simp only [cA,apB];omega
theorem o6 (t:aQ):1<=t.size:=by cases t;simp only [aQ.size];omega
mutual
def aQ.enc:aQ->List D
 | .mk k n a s l=>[.i .i64 k,.i .i64 n,.i .i64 a,.s s,.l 5 (FT l)]
def FT:List aQ->List (List D)
 | []=>[]
 | t::l=>t.enc::FT l
end
theorem T5:∀l:List aQ,FT l=l.map aQ.enc
 | []=>rfl
 | t::l=>by rw [FT,T5 l,aqu]
theorem Cd (t:aQ):t.enc=[.i .i64 t.k,.i .i64 t.n,.i .i64 t.a,.s t.s,.l 5 (t.l.map aQ.enc)]:=by
 cases t with
 | mk k n a s l=>simp only [aQ.enc,T5,aQ.k,aQ.n,aQ.a,aQ.s,aQ.l]
mutual
def aQ.deep:aQ->Nat
 | .mk _ _ _ _ l=>kM l+1
def kM:List aQ->Nat
 | []=>0
 | t::l=>max t.deep (kM l)
end
section
variable {F:aL->Prop} {h:ae} [Lay]
theorem aQ.open {t:aQ} {ag:List V} (H:bN F h t.enc ag):∃cB,ag=[.int .i64 t.k,.int .i64 t.n,.int .i64 t.a,.str t.s,cB]/\b0 F h 5 (t.l.map aQ.enc) cB/\t.s.length<=top:=by rw [Cd] at H;obtain ⟨_,rfl,H1⟩:=H.int;obtain ⟨_,rfl,cS⟩:=H1.int;obtain ⟨_,rfl,rP⟩:=cS.int;obtain ⟨_,rfl,aZ,u_⟩:=rP.str;obtain ⟨cB,_,rfl,L,rQ⟩:=u_.eZ;obtain rfl:=rQ.no;exact ⟨cB,rfl,L,aZ⟩
theorem aQ.lh {l:List aQ} {v:V} (H:b0 F h 5 (l.map aQ.enc) v) {k:IntKind} {i:Nat} (ax:i<l.length):
 ∃b off cB,fK 5 v (.int k i)=some (.ptr b (off+i * 5))/\bN F h l[i].enc [.int .i64 l[i].k,.int .i64 l[i].n,.int .i64 l[i].a,.str l[i].s,cB]/\b0 F h 5 (l[i].l.map aQ.enc) cB/\
  ∀ab,Ext h ab->ml 5 (ab.get b) (off+i * 5)=some (.agg [.int .i64 l[i].k,.int .i64 l[i].n,.int .i64 l[i].a,.str l[i].s,cB]):=by
 obtain ⟨b,off,u,aK,aS,bU,b9,_⟩:=H.at (k:=k) (i:=i) (by rw [apG];exact ax);rw [aq4] at aS;obtain ⟨cB,rfl,L,_⟩:=aQ.open aS;exact ⟨b,off,cB,aK,aS,L,b9⟩
end
end
section
open Go aX Go.RowKit
theorem Ar {w:World} {p:Addr} {v:Value} (h:w.cell? p=some v):p.block<w.heap.size:=by
 unfold World.cell? at h;by_cases q:p.block<w.heap.size
 . exact q
 . rw [ara (by omega)] at h;cases h
def xm (w:World) (g:Nat):Prop:=∃aP,w.cell? ⟨g,0,none⟩=some aP/\(aP=.nilIface\/∃amr T4,aP=.iface amr T4)
theorem xm.eR {w w':World} {g:Nat} (h:xm w g) (ah:Below w.heap.size w w'):xm w' g:=by obtain ⟨aP,aa,ad⟩:=h;exact ⟨aP,by rw [ah.cell (Ar aa)];exact aa,ad⟩
structure Ha (w:World):Prop where
 VL:Lib.Utf8Tabs 0 1 w
 maxLen:∃m,w.cell? ⟨2,0,none⟩=some (.int .i64 m)
 Qk:xm w 4
instance lay:Lay where
 ok w:=Ha w
 eR:=by
  intro w w' h ah;refine ⟨?_,?_,h.Qk.eR ah⟩
  . obtain ⟨aa,ad⟩:=h.VL;refine ⟨fun c ao=>?_,fun i ax=>?_⟩
    . rw [ah.cell (Ar (aa c ao))];exact aa c ao
    . obtain ⟨ak,al⟩:=ad i ax;rw [ah.cell (Ar ak),ah.cell (Ar al)];exact ⟨ak,al⟩
  . obtain ⟨m,q⟩:=h.maxLen;exact ⟨m,by rw [ah.cell (Ar q)];exact q⟩
section
open Go.Shelf
def Tryz.ah5:Go.Shelf.Ren:=⟨fun | 144=>134 | 143=>138 | 219=>146 | 217=>118 | 225=>151 | 224=>152 | 267=>153 | 266=>128 | 314=>155 | n=>n,fun | 9=>9 | 4=>4 | 3=>3 | 5=>5 | 46=>160 | 146=>173 | 51=>172 | n=>n,fun | 1=>2 | n=>n⟩
theorem Tryz.ah4:Go.Proofs.Lays.n144 Tryz.prog Tryz.ah5:={
 mixed:=by kernel_rfl,
 f143:=Tryz.func138.trans (congrArg some (by kernel_rfl)),
 f144:=Tryz.func134.trans (congrArg some (by kernel_rfl)),
 f217:=Tryz.func118.trans (congrArg some (by kernel_rfl)),
 f219:=Tryz.func146.trans (congrArg some (by kernel_rfl)),
 f224:=Tryz.func152.trans (congrArg some (by kernel_rfl)),
 f225:=Tryz.func151.trans (congrArg some (by kernel_rfl)),
 f266:=Tryz.func128.trans (congrArg some (by kernel_rfl)),
 f267:=Tryz.func153.trans (congrArg some (by kernel_rfl)),
 f314:=Tryz.func155.trans (congrArg some (by kernel_rfl)),
 t3:=Tryz.underlying3,
 a3:=Tryz.isAgg3,
 z3:=Tryz.sizeOf3,
 v3:=Tryz.zeroValue3,
 t4:=Tryz.underlying4,
 a4:=Tryz.isAgg4,
 z4:=Tryz.sizeOf4,
 v4:=Tryz.zeroValue4,
 t5:=Tryz.underlying5,
 a5:=Tryz.isAgg5,
 z5:=Tryz.sizeOf5,
 v5:=Tryz.zeroValue5,
 t9:=Tryz.underlying9,
 a9:=Tryz.isAgg9,
 z9:=Tryz.sizeOf9,
 v9:=Tryz.zeroValue9,
 t46:=Tryz.underlying160,
 a46:=Tryz.isAgg160,
 z46:=Tryz.sizeOf160,
 v46:=Tryz.zeroValue160,
 t51:=Tryz.underlying172,
 a51:=Tryz.isAgg172,
 z51:=Tryz.sizeOf172,
 v51:=Tryz.zeroValue172,
 t146:=Tryz.underlying173,
 a146:=Tryz.isAgg173,
 z146:=Tryz.sizeOf173,
 v146:=Tryz.zeroValue173,
 g1:=by kernel_rfl}
theorem Pw (s sub:ByteArray) (m:Int) (w:World) (aZ:s.size<4294967281) (hm:w.cell? ⟨2,0,none⟩=some (.int .i64 m)):
 Calls Tryz.prog 134 #[.string s,.string sub] w fun e w'=>e=.returned (.bool (Lib.contains s.data.toList sub.data.toList))/\w'=w:=Any.strings_Contains Tryz.ah4 s sub m w aZ hm
end
def ctx:Ctx:=⟨Tryz.prog,fun f=>bif Nat.beq f 134 then some H5 else none,fun f=>bif Nat.beq f 128 then some E8 else none⟩
theorem follows:Tryz.prog.follows .mixedOrders=true:=by kernel_rfl
theorem names:(Tryz.prog.funcs.toList.all fun fn=>!(fn.name == "runtime.NumGoroutine"))=true:=by kernel_rfl
theorem yW:ec Tryz.prog:=by intro f fn h;have:=apU.1 names fn (apY (i:=f) (by simpa using h));simpa using this
theorem Lj:pk ctx:=by
 refine ⟨fun f p args h v ab af he=>?_,fun f p args h v ab af he ay E w xs aj s=>?_⟩
 . simp only [ctx,hi] at af;by_cases av:f=134
   . rw [apz av] at af;cases af;subst av;obtain ⟨s,sub,rfl,aZ,rfl,rfl⟩:=aaa he;refine ⟨⟨_,Tryz.func134,by kernel_rfl⟩,ahU fun E xs w aA aj=>?_⟩;obtain ⟨y,cp,rfl,ak,z,u5,rfl,al,rfl⟩:=aj;simp only [Rel] at ak al;subst ak al;obtain ⟨m,hm⟩:=aA.maxLen;refine (Pw ⟨⟨s⟩⟩ ⟨⟨sub⟩⟩ m w (by show s.length<4294967281;omega) hm).mono fun e w' q=>?_;obtain ⟨rfl,rfl⟩:=q;exact ⟨_,rfl,by simp only [Rel],Below.refl _ _⟩
   . rw [apw av] at af;cases af
 . simp only [ctx,hi] at af;by_cases av:f=128
   . rw [apz av] at af;cases af;subst av;exact aft (P:=Tryz.prog) Tryz.func128 (by kernel_rfl) (by kernel_rfl) (by kernel_rfl) (by kernel_rfl) he ay E w xs aj s
   . rw [apw av] at af;cases af
end
end Go.Proofs.YtgmhjhgoamjeeaaGreatDoor
