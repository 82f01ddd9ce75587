/- What the law ConvMany of layer 17 comes to, part 19. Conditions: none. -/
import Derived.Test.YthebfdakjfnpeaaGreatZdar
section

end
