/- The chapter's functions, walked by the abstract machine: plain lemmas, no condition. Printed by a program from longer texts: names made short. -/
import Derived.Test.YtgmhjhgoamjeeaaGreatDoorM5
import Derived.Test.YtgmhjhgoamjeeaaGreatDoorM3
import Derived.Test.YtgmhjhgoamjeeaaGreatDoorM4
import Derived.Shelf.Strings.Search3
import Derived.MakeChecks
import Derived.Shelf.Vars
import Derived.Lay
import Derived.LaidLaws
import Derived.Lib.LaidTab
import Derived.Lib.LaidU8T
import Derived.Test.YtgmhjhgoamjeeaaGreatDoorRows
set_option linter.unusedSectionVars false
set_option linter.unusedSimpArgs false
set_option linter.unusedVariables false
set_option maxHeartbeats 64000000
noncomputable section
namespace Go.Proofs.YtgmhjhgoamjeeaaGreatDoor
section
open Go a7
inductive aE where
 | mk (k n a:Int) (s:List UInt8) (l:List aE)
namespace aE
def k:aE->Int | mk k _ _ _ _=>k
def n:aE->Int | mk _ n _ _ _=>n
def a:aE->Int | mk _ _ a _ _=>a
def s:aE->List UInt8 | mk _ _ _ s _=>s
def l:aE->List aE | mk _ _ _ _ l=>l
end aE
mutual
def aE.size:aE->Nat
 | .mk _ _ _ _ l=>1+b0 l
def b0:List aE->Nat
 | []=>0
 | t::l=>t.size+b0 l
end
theorem pS {t:aE}:∀{l:List aE},t ∈ l->t.size<=b0 l
 | [],h=>by cases h
 | u::l,h=>by
   simp only [b0];rcases aql.1 h with rfl | h
   . omega
   . have:=pS h;omega
theorem vf {t u:aE} (h:u ∈ t.l):u.size<t.size:=by
 cases t with
 | mk k n a s l=>have:=pS h;simp only [aE.size];simp only [aE.l] at this;omega
theorem mG:∀l:List aE,l.length<=b0 l
 | []=>ap7 _
 | t::l=>by have:=mG l;have:1<=t.size:=by (cases t;simp only [aE.size];omega)
            simp only [b0,aqb];omega
theorem qV (t:aE):1<=t.size:=by cases t;simp only [aE.size];omega
mutual
def aE.enc:aE->List D
 | .mk k n a s l=>[.i .i64 k,.i .i64 n,.i .i64 a,.s s,.l 5 (Gr l)]
def Gr:List aE->List (List D)
 | []=>[]
 | t::l=>t.enc::Gr l
end
theorem U':∀l:List aE,Gr l=l.map aE.enc
 | []=>rfl
 | t::l=>by rw [Gr,U' l,are]
theorem xn (t:aE):t.enc=[.i .i64 t.k,.i .i64 t.n,.i .i64 t.a,.s t.s,.l 5 (t.l.map aE.enc)]:=by
 cases t with
 | mk k n a s l=>simp only [aE.enc,U',aE.k,aE.n,aE.a,aE.s,aE.l]
mutual
def aE.deep:aE->Nat
 | .mk _ _ _ _ l=>lj l+1
def lj:List aE->Nat
 | []=>0
 | t::l=>max t.deep (lj l)
end
section
variable {F:aQ->Prop} {h:ag} [Lay]
theorem aE.open {t:aE} {ah:List V} (H:cb F h t.enc ah):∃cB,ah=[.int .i64 t.k,.int .i64 t.n,.int .i64 t.a,.str t.s,cB]/\bB F h 5 (t.l.map aE.enc) cB/\t.s.length<=top:=by rw [xn] at H;obtain ⟨_,rfl,H1⟩:=H.int;obtain ⟨_,rfl,cf⟩:=H1.int;obtain ⟨_,rfl,jA⟩:=cf.int;obtain ⟨_,rfl,aO,p3⟩:=jA.str;obtain ⟨cB,_,rfl,L,vB⟩:=p3.ea;obtain rfl:=vB.no;exact ⟨cB,rfl,L,aO⟩
theorem aE.la {l:List aE} {v:V} (H:bB F h 5 (l.map aE.enc) v) {k:IntKind} {i:Nat} (aB:i<l.length):
 ∃b off cB,hG 5 v (.int k i)=some (.ptr b (off+i * 5))/\cb F h l[i].enc [.int .i64 l[i].k,.int .i64 l[i].n,.int .i64 l[i].a,.str l[i].s,cB]/\bB F h 5 (l[i].l.map aE.enc) cB/\
  ∀ab,Ext h ab->nj 5 (ab.get b) (off+i * 5)=some (.agg [.int .i64 l[i].k,.int .i64 l[i].n,.int .i64 l[i].a,.str l[i].s,cB]):=by
 obtain ⟨b,off,u,ax,aH,bA,b5,_⟩:=H.at (k:=k) (i:=i) (by rw [ap6];exact aB);rw [arV] at aH;obtain ⟨cB,rfl,L,_⟩:=aE.open aH;exact ⟨b,off,cB,ax,aH,L,b5⟩
end
end
section
open Go a7 Go.RowKit
theorem A8 {w:World} {p:Addr} {v:Value} (h:w.cell? p=some v):p.block<w.heap.size:=by
 unfold World.cell? at h;by_cases q:p.block<w.heap.size
 . exact q
 . rw [arY (by omega)] at h;cases h
def xT (w:World) (g:Nat):Prop:=∃aT,w.cell? ⟨g,0,none⟩=some aT/\(aT=.nilIface\/∃ane U9,aT=.iface ane U9)
theorem xT.fc {w w':World} {g:Nat} (h:xT w g) (ak:Below w.heap.size w w'):xT w' g:=by obtain ⟨aT,aa,ae⟩:=h;exact ⟨aT,by rw [ak.cell (A8 aa)];exact aa,ae⟩
structure HB (w:World):Prop where
 WS:Lib.Utf8Tabs 0 1 w
 maxLen:∃m,w.cell? ⟨2,0,none⟩=some (.int .i64 m)
 Rj:xT w 4
instance lay:Lay where
 ok w:=HB w
 fc:=by
  intro w w' h ak;refine ⟨?_,?_,h.Rj.fc ak⟩
  . obtain ⟨aa,ae⟩:=h.WS;refine ⟨fun c av=>?_,fun i aB=>?_⟩
    . rw [ak.cell (A8 (aa c av))];exact aa c av
    . obtain ⟨al,au⟩:=ae i aB;rw [ak.cell (A8 al),ak.cell (A8 au)];exact ⟨al,au⟩
  . obtain ⟨m,q⟩:=h.maxLen;exact ⟨m,by rw [ak.cell (A8 q)];exact q⟩
section
open Go.Shelf
def Tryz.aiK:Go.Shelf.Ren:=⟨fun | 144=>134 | 143=>138 | 219=>146 | 217=>118 | 225=>151 | 224=>152 | 267=>153 | 266=>128 | 314=>155 | n=>n,fun | 9=>9 | 4=>4 | 3=>3 | 5=>5 | 46=>160 | 146=>173 | 51=>172 | n=>n,fun | 1=>2 | n=>n⟩
theorem Tryz.aiJ:Go.Proofs.Lays.n144 Tryz.prog Tryz.aiK:={
 mixed:=by kernel_rfl,
 f143:=Tryz.func138.trans (congrArg some (by kernel_rfl)),
 f144:=Tryz.func134.trans (congrArg some (by kernel_rfl)),
 f217:=Tryz.func118.trans (congrArg some (by kernel_rfl)),
 f219:=Tryz.func146.trans (congrArg some (by kernel_rfl)),
 f224:=Tryz.func152.trans (congrArg some (by kernel_rfl)),
 f225:=Tryz.func151.trans (congrArg some (by kernel_rfl)),
 f266:=Tryz.func128.trans (congrArg some (by kernel_rfl)),
 f267:=Tryz.func153.trans (congrArg some (by kernel_rfl)),
 f314:=Tryz.func155.trans (congrArg some (by kernel_rfl)),
 t3:=Tryz.underlying3,
 a3:=Tryz.isAgg3,
 z3:=Tryz.sizeOf3,
 v3:=Tryz.zeroValue3,
 t4:=Tryz.underlying4,
 a4:=Tryz.isAgg4,
 z4:=Tryz.sizeOf4,
 v4:=Tryz.zeroValue4,
 t5:=Tryz.underlying5,
 a5:=Tryz.isAgg5,
 z5:=Tryz.sizeOf5,
 v5:=Tryz.zeroValue5,
 t9:=Tryz.underlying9,
 a9:=Tryz.isAgg9,
 z9:=Tryz.sizeOf9,
 v9:=Tryz.zeroValue9,
 t46:=Tryz.underlying160,
 a46:=Tryz.isAgg160,
 z46:=Tryz.sizeOf160,
 v46:=Tryz.zeroValue160,
 t51:=Tryz.underlying172,
 a51:=Tryz.isAgg172,
 z51:=Tryz.sizeOf172,
 v51:=Tryz.zeroValue172,
 t146:=Tryz.underlying173,
 a146:=Tryz.isAgg173,
 z146:=Tryz.sizeOf173,
 v146:=Tryz.zeroValue173,
 g1:=by kernel_rfl}
theorem Qy (s sub:ByteArray) (m:Int) (w:World) (aO:s.size<4294967281) (hm:w.cell? ⟨2,0,none⟩=some (.int .i64 m)):
 Calls Tryz.prog 134 #[.string s,.string sub] w fun e w'=>e=.returned (.bool (Lib.contains s.data.toList sub.data.toList))/\w'=w:=Any.strings_Contains Tryz.aiJ s sub m w aO hm
end
def ctx:Ctx:=⟨Tryz.prog,fun f=>bif Nat.beq f 134 then some Iv else none,fun f=>bif Nat.beq f 128 then some FJ else none⟩
theorem follows:Tryz.prog.follows .mixedOrders=true:=by kernel_rfl
theorem names:(Tryz.prog.funcs.toList.all fun fn=>!(fn.name == "runtime.NumGoroutine"))=true:=by kernel_rfl
theorem zE:et Tryz.prog:=by intro f fn h;have:=aqu.1 names fn (aqv (i:=f) (by simpa using h));simpa using this
theorem LN:p7 ctx:=by
 refine ⟨fun f p args h v ab ai he=>?_,fun f p args h v ab ai he aC E w xs ao s=>?_⟩
 . simp only [ctx,h1] at ai;by_cases aF:f=134
   . rw [aqf aF] at ai;cases ai;subst aF;obtain ⟨s,sub,rfl,aO,rfl,rfl⟩:=abg he;refine ⟨⟨_,Tryz.func134,by kernel_rfl⟩,aiC fun E xs w aw ao=>?_⟩;obtain ⟨y,cy,rfl,al,z,vw,rfl,au,rfl⟩:=ao;simp only [Rel] at al au;subst al au;obtain ⟨m,hm⟩:=aw.maxLen;refine (Qy ⟨⟨s⟩⟩ ⟨⟨sub⟩⟩ m w (by show s.length<4294967281;omega) hm).mono fun e w' q=>?_;obtain ⟨rfl,rfl⟩:=q;exact ⟨_,rfl,by simp only [Rel],Below.refl _ _⟩
   . rw [aqa aF] at ai;cases ai
 . simp only [ctx,h1] at ai;by_cases aF:f=128
   . rw [aqf aF] at ai;cases ai;subst aF;exact af_ (P:=Tryz.prog) Tryz.func128 (by kernel_rfl) (by kernel_rfl) (by kernel_rfl) (by kernel_rfl) he aC E w xs ao s
   . rw [aqa aF] at ai;cases ai
end
end Go.Proofs.YtgmhjhgoamjeeaaGreatDoor
